/-
  PROVED HERE: what (*buffers).moves does. what (*buffers).done does. what impl.RunMoves does. what impl.MovesAfter does. CONDITIONS: as each theorem states.
-/
import Derived.Test.YtbncmeggnhggkaaIba
import Derived.Test.YtbncmeggnhggkaaSqg
import Derived.Test.YtbncmeggnhggkaaIbf
namespace Go.Proofs.Ytbncmeggnhggkaa
open Go.RowKit
set_option linter.unusedVariables false
set_option linter.unusedSimpArgs false

set_option maxRecDepth 100000 in
set_option maxHeartbeats 3200000 in
theorem bufMoves_c (w : World) (g : Nat) (p : Prg) (split : Bool) (s : St) (h : BAt w g p split s) (hv : Shape p) :
    Calls Try.prog 130 #[.pointer (some ⟨g, 0, none⟩)] w (RetL w (moves4 p s split)) := by
  obtain ⟨a, cap, hrp, h0, _, _, _⟩ := h.v.cells hv
  obtain ⟨wa, wc, _, c17, hrw, _⟩ := h.more hv
  have hgl := h.lt
  have hbl := h.good.blen hv
  have HAT := hid h
  have HRW := hid hrw
  have HNX := hid (fun w (h : BAt w g p split s) (t : Nat) (ht : t < p.length) => next_c w g p s t h.v hv ht)
  have HEM := hid (fun w (h : BAt w g p split s) (t : Nat) (ht : t < p.length) => isEmpty_c w g p split s t h hv ht)
  have HM := hid (show movTo p s split (p.length + s.buf.length) = moves4 p s split from rfl)
  have HL := hid (movTo_len p s split)
  have HS := hid (fun k (hk : k < p.length) => show movTo p s split (k + 1) = movTo p s split k ++ if ready4 p s split k then [(k : Int)] else [] from by rw [movTo_succ, can4, if_pos hk])
  have HS2 := hid (fun k => show movTo p s split (p.length + (k + 1)) = movTo p s split (p.length + k) ++ if !(row4 s k).isEmpty then [((p.length + k : Nat) : Int)] else [] from by
    have hc : can4 p s split (p.length + k) = !(row4 s k).isEmpty := by unfold can4; rw [if_neg (by omega), Nat.add_sub_cancel_left]
    rw [← Nat.add_assoc, movTo_succ, hc])
  have HR4 := hid (fun k => show ready4 p s split k = (goes p s k && (!waits4 (nxt p s k) || empty4 s k split)) from rfl)
  have HR7 := hid (fun b (hb : b < s.buf.length) => h.good.rlen hv (row4_get hb))
  have HOK := hid (fun k (hgo : goes p s k = true) => show insValid (nxt p s k) = true from by
    obtain ⟨xs, j, x, _, _, _, hiv, hn, _⟩ := h.good.toGood.next hv hgo
    rw [hn]; exact hiv)
  obtain ⟨n, hn⟩ : ∃ n, n = p.length := ⟨_, rfl⟩
  have hn3 : n ≤ 3 := by rw [hn]; exact hv.len
  obtain ⟨bl, hbn⟩ : ∃ bl, bl = s.buf.length := ⟨_, rfl⟩
  have HBN := hid hbn
  rw [← hn] at h0 HNX HM HEM HS HS2
  rw [← hbn] at c17 hbl HM HR7
  clear hn h hv hrp hrw hbn
  rw [← HM.out]
  go_enter Try.func130, Try.ntmps130
  go_wp2_with fail
  go_loopw [3, 15] (fun v i wr => ∃ k : Nat, k ≤ n ∧ i = .int .i64 k ∧ Hid (wr.ownsRow w.heap.size 3 1 v (movTo p s split k).length (ints (movTo p s split k))) ∧ Hid (Below w.heap.size w wr)) (fun _ i _ => n - (intOf i).toNat)
  case atStart => exact ⟨0, Nat.zero_le _, rfl, hid (by simpa [movTo] using own_none w w.heap.size 3 1), hid (Below.refl _ _)⟩
  case round =>
    obtain ⟨k, hk, rfl, HO, HB⟩ := hrel
    by_cases hlt : k < n
    · have HC := hid (HNX.out wr (HAT.out.below HB.out) k hlt)
      have HSK := hid (HS.out k hlt)
      rw [HR4.out] at HSK
      have hll := HL.out k
      obtain ⟨L, eL⟩ : ∃ L, L = movTo p s split k := ⟨_, rfl⟩
      rw [← eL] at HSK hll HO
      clear eL
      by_cases hgo : goes p s k = true
      · rw [hgo, Bool.true_and] at HSK
        rw [hgo] at HC
        obtain ⟨x, hx⟩ : ∃ x, x = nxt p s k := ⟨_, rfl⟩
        rw [← hx] at HC HSK
        clear hx
        obtain ⟨op, loc, reg, val⟩ := x
        have HW := hid (show waits4 ⟨op, loc, reg, val⟩ = ((op == 4) || (op == 5)) from rfl)
        rw [HW.out] at HSK
        clear hgo
        by_cases h4 : op = 4
        · subst h4
          simp only [beq_self_eq_true, Bool.true_or, Bool.not_true, Bool.false_or] at HSK
          simp only [↓reduceIte] at HC
          go_wp2_with fail
          refine HC.out.mono ?_
          rintro e w2 ⟨rfl, hb2⟩
          have HB2 := hid ((HB.out.trans (hb2.mono HB.out.size)).alloc (by have := hb2.size; have := HB.out.size; omega) (.cells #[.int .i64 4, .int .i64 loc, .int .i64 reg, .int .i64 val] 79))
          have HO2 := hid (World.ownsRow.alloc (own_below HO.out hb2) (.cells #[.int .i64 4, .int .i64 loc, .int .i64 reg, .int .i64 val] 79))
          have HA2 := hid (HAT.out.below HB2.out)
          have hs2 := hb2.size
          have hs1 := HB.out.size
          clear hb2
          have HE := hid (HEM.out _ HA2.out k hlt)
          obtain ⟨E, hE⟩ : ∃ E, E = empty4 s k split := ⟨_, rfl⟩
          rw [← hE] at HE HSK
          clear hE
          go_wp2_with fail
          refine HE.out.mono ?_
          rintro e w4 ⟨rfl, hb4⟩
          have HB4 := hid (HB2.out.trans (hb4.mono HB2.out.size))
          have HO4 := hid (own_below HO2.out hb4)
          clear hb4
          cases E
          · have HSK : Hid (movTo p s split (k + 1) = L ++ if false = true then [(k : Int)] else []) := hid (by have := HSK.out; simpa using this)
            rw [if_neg (by decide), List.append_nil] at HSK
            have HO6 := hid (show _ from HO4.out)
            rw [← HSK.out] at HO6
            go_wp2_with fail
            go_roundw
            case rel => exact ⟨k + 1, by omega, by go_num, HO6, HB4⟩
            case measure => simp [intOf]; omega
          · have HSQ : Hid (movTo p s split (k + 1) = L ++ [(k : Int)]) := hid (by have := HSK.out; simpa using this)
            clear HSK
            have HSK := HSQ
            clear HSQ
            obtain ⟨a1, cap1, rfl, _⟩ := own_shape HO4.out
            have hsz := HB4.out.size
            go_wp2_with (at_builtin; refine wpList_append_one rfl (.tmp 42) (.tmp 44) 23 rfl w.heap.size 3 (.int .i64 0) 8 Try.underlying23 Try.info_int rfl _ _ _ rfl (HO4.out.alloc _) _ (.int .i64 (k : Nat)) rfl (by simp) rfl (by omega) (by omega) (by simp; omega) ?_)
            intro v1 w6 hown1 hgrow1
            have HO6 := hid (own_snoc (w := w) hown1)
            rw [← HSK.out] at HO6
            have HB6 := hid ((HB4.out.alloc HB4.out.size _).grown hgrow1 (by simp; omega) (fun b hb => (HO4.out.lt b hb).1))
            clear hown1 hgrow1
            go_wp2_with fail
            go_roundw
            case rel => exact ⟨k + 1, by omega, by go_num, HO6, HB6⟩
            case measure => simp [intOf]; omega
        by_cases h5 : op = 5
        · subst h5
          simp only [beq_self_eq_true, Bool.or_true, Bool.not_true, Bool.false_or] at HSK
          simp only [↓reduceIte] at HC
          go_wp2_with fail
          refine HC.out.mono ?_
          rintro e w2 ⟨rfl, hb2⟩
          have HB2 := hid ((HB.out.trans (hb2.mono HB.out.size)).alloc (by have := hb2.size; have := HB.out.size; omega) (.cells #[.int .i64 5, .int .i64 loc, .int .i64 reg, .int .i64 val] 79))
          have HO2 := hid (World.ownsRow.alloc (own_below HO.out hb2) (.cells #[.int .i64 5, .int .i64 loc, .int .i64 reg, .int .i64 val] 79))
          have HA2 := hid (HAT.out.below HB2.out)
          have hs2 := hb2.size
          have hs1 := HB.out.size
          clear hb2
          have HE := hid (HEM.out _ HA2.out k hlt)
          obtain ⟨E, hE⟩ : ∃ E, E = empty4 s k split := ⟨_, rfl⟩
          rw [← hE] at HE HSK
          clear hE
          go_wp2_with fail
          refine HE.out.mono ?_
          rintro e w4 ⟨rfl, hb4⟩
          have HB4 := hid (HB2.out.trans (hb4.mono HB2.out.size))
          have HO4 := hid (own_below HO2.out hb4)
          clear hb4
          cases E
          · have HSK : Hid (movTo p s split (k + 1) = L ++ if false = true then [(k : Int)] else []) := hid (by have := HSK.out; simpa using this)
            rw [if_neg (by decide), List.append_nil] at HSK
            have HO6 := hid (show _ from HO4.out)
            rw [← HSK.out] at HO6
            go_wp2_with fail
            go_roundw
            case rel => exact ⟨k + 1, by omega, by go_num, HO6, HB4⟩
            case measure => simp [intOf]; omega
          · have HSQ : Hid (movTo p s split (k + 1) = L ++ [(k : Int)]) := hid (by have := HSK.out; simpa using this)
            clear HSK
            have HSK := HSQ
            clear HSQ
            obtain ⟨a1, cap1, rfl, _⟩ := own_shape HO4.out
            have hsz := HB4.out.size
            go_wp2_with (at_builtin; refine wpList_append_one rfl (.tmp 42) (.tmp 44) 23 rfl w.heap.size 3 (.int .i64 0) 8 Try.underlying23 Try.info_int rfl _ _ _ rfl (HO4.out.alloc _) _ (.int .i64 (k : Nat)) rfl (by simp) rfl (by omega) (by omega) (by simp; omega) ?_)
            intro v1 w6 hown1 hgrow1
            have HO6 := hid (own_snoc (w := w) hown1)
            rw [← HSK.out] at HO6
            have HB6 := hid ((HB4.out.alloc HB4.out.size _).grown hgrow1 (by simp; omega) (fun b hb => (HO4.out.lt b hb).1))
            clear hown1 hgrow1
            go_wp2_with fail
            go_roundw
            case rel => exact ⟨k + 1, by omega, by go_num, HO6, HB6⟩
            case measure => simp [intOf]; omega
        have n4 : (op == 4) = false := by simpa using h4
        have n5 : (op == 5) = false := by simpa using h5
        have m4 : (op != 4) = true := by simpa using h4
        have m5 : (op != 5) = true := by simpa using h5
        have HSK : Hid (movTo p s split (k + 1) = L ++ [(k : Int)]) := hid (by have := HSK.out; rw [n4, n5] at this; simpa using this)
        clear h4 h5
        simp only [↓reduceIte] at HC
        go_wp2_with fail
        refine HC.out.mono ?_
        rintro e w2 ⟨rfl, hb2⟩
        have HB2 := hid ((HB.out.trans (hb2.mono HB.out.size)).alloc (by have := hb2.size; have := HB.out.size; omega) (.cells #[.int .i64 op, .int .i64 loc, .int .i64 reg, .int .i64 val] 79))
        have HO2 := hid (World.ownsRow.alloc (own_below HO.out hb2) (.cells #[.int .i64 op, .int .i64 loc, .int .i64 reg, .int .i64 val] 79))
        have HA2 := hid (HAT.out.below HB2.out)
        have hs2 := hb2.size
        have hs1 := HB.out.size
        clear hb2
        obtain ⟨a1, cap1, rfl, _⟩ := own_shape HO2.out
        have hsz := HB2.out.size
        go_wp2_with (at_builtin; refine wpList_append_one rfl (.tmp 42) (.tmp 44) 23 rfl w.heap.size 3 (.int .i64 0) 8 Try.underlying23 Try.info_int rfl _ _ _ rfl (HO2.out.alloc _) _ (.int .i64 (k : Nat)) rfl (by simp) rfl (by omega) (by omega) (by simp; omega) ?_)
        intro v1 w6 hown1 hgrow1
        have HO6 := hid (own_snoc (w := w) hown1)
        rw [← HSK.out] at HO6
        have HB6 := hid ((HB2.out.alloc HB2.out.size _).grown hgrow1 (by simp; omega) (fun b hb => (HO2.out.lt b hb).1))
        clear hown1 hgrow1
        go_wp2_with fail
        go_roundw
        case rel => exact ⟨k + 1, by omega, by go_num, HO6, HB6⟩
        case measure => simp [intOf]; omega
      · have hgo : goes p s k = false := by simpa using hgo
        rw [hgo, Bool.false_and] at HSK
        rw [hgo] at HC
        simp only [Bool.false_eq_true, ↓reduceIte] at HC
        clear hgo
        go_wp2_with fail
        refine HC.out.mono ?_
        rintro e w2 ⟨rfl, hb2⟩
        have HB2 := hid ((HB.out.trans (hb2.mono HB.out.size)).alloc (by have := hb2.size; have := HB.out.size; omega) (.cells #[.int .i64 0, .int .i64 0, .int .i64 0, .int .i64 0] 79))
        have HO2 := hid (World.ownsRow.alloc (own_below HO.out hb2) (.cells #[.int .i64 0, .int .i64 0, .int .i64 0, .int .i64 0] 79))
        clear hb2
        rw [if_neg (by decide), List.append_nil] at HSK
        have HO6 := hid (show _ from HO2.out)
        rw [← HSK.out] at HO6
        go_wp2_with fail
        go_roundw
        case rel => exact ⟨k + 1, by omega, by go_num, HO6, HB2⟩
        case measure => simp [intOf]; omega
    · obtain rfl : k = n := by omega
      have c17w := (HB.out.cell (p := ⟨g, 17, none⟩) hgl).trans c17
      go_wp2_with fail
      go_loopw [3, 52] (fun v i wx => ∃ j : Nat, j ≤ bl ∧ i = .int .i64 j ∧ Hid (wx.ownsRow w.heap.size 3 1 v (movTo p s split (k + j)).length (ints (movTo p s split (k + j)))) ∧ Hid (Below w.heap.size w wx)) (fun _ i _ => bl - (intOf i).toNat)
      case atStart => exact ⟨0, Nat.zero_le _, rfl, HO, HB⟩
      case round =>
        obtain ⟨j, hj, rfl, HO2, HB2⟩ := hrel
        have hll := HL.out (k + j)
        by_cases hjb : j < bl
        · have HSK := hid (HS2.out j)
          obtain ⟨L, eL⟩ : ∃ L, L = movTo p s split (k + j) := ⟨_, rfl⟩
          rw [← eL] at HSK hll HO2
          clear eL
          obtain ⟨b, off, r, c, hab, hbl', hcell, _, _⟩ := HRW.out.at' (row4_get (s := s) (b := j) (by rw [← HBN.out]; exact hjb))
          subst hab
          have hcw := (HB2.out.cell (p := ⟨b, off + j, none⟩) hbl').trans hcell
          have h0w := (HB2.out.cell (p := ⟨g, 0, none⟩) hgl).trans h0
          have h7 := HR7.out j hjb
          have HEE := hid (show (row4 s j).isEmpty = decide ((row4 s j).length = 0) by cases row4 s j <;> simp)
          rw [HEE.out] at HSK
          obtain ⟨l, hl⟩ : ∃ l, l = (row4 s j).length := ⟨_, rfl⟩
          rw [← hl] at hcw h7 HSK
          clear hcell hl HEE
          by_cases hl0 : l = 0
          · have hl1 : ¬ ((0 : Int) < (l : Int)) := by omega
            rw [decide_eq_true hl0] at HSK
            have HSK : Hid (movTo p s split (k + (j + 1)) = L) := hid (by have := HSK.out; simpa using this)
            have HO6 := hid (show _ from HO2.out)
            rw [← HSK.out] at HO6
            go_wp2_with fail
            go_roundw
            case rel => exact ⟨j + 1, by omega, by go_num, HO6, HB2⟩
            case measure => simp [intOf]; omega
          · have hl1 : (0 : Int) < (l : Int) := by omega
            rw [decide_eq_false hl0] at HSK
            have HSK : Hid (movTo p s split (k + (j + 1)) = L ++ [(k : Int) + (j : Int)]) := hid (by have := HSK.out; simpa using this)
            obtain ⟨a1, cap1, rfl, _⟩ := own_shape HO2.out
            have hsz := HB2.out.size
            go_wp2_with (at_builtin; refine wpList_append_one rfl (.tmp 60) (.tmp 69) 23 rfl w.heap.size 3 (.int .i64 0) 8 Try.underlying23 Try.info_int rfl _ _ _ rfl (HO2.out.alloc _) _ (.int .i64 ((k : Int) + (j : Int))) rfl (by simp) rfl (by omega) (by omega) (by simp; omega) ?_)
            intro v1 w6 hown1 hgrow1
            have HO6 := hid (own_snoc (w := w) hown1)
            rw [← HSK.out] at HO6
            have HB6 := hid ((HB2.out.alloc HB2.out.size _).grown hgrow1 (by simp; omega) (fun b hb => (HO2.out.lt b hb).1))
            clear hown1 hgrow1
            go_wp2_with fail
            go_roundw
            case rel => exact ⟨j + 1, by omega, by go_num, HO6, HB6⟩
            case measure => simp [intOf]; omega
        · obtain rfl : j = bl := by omega
          obtain ⟨a1, cap1, rfl, _⟩ := own_shape HO2.out
          go_wp2
          go_ret
          exact ⟨_, _, rfl, HO2.out, HB2.out⟩
end Go.Proofs.Ytbncmeggnhggkaa
namespace Go.Proofs.Ytbncmeggnhggkaa
open Go.RowKit
set_option linter.unusedVariables false
set_option linter.unusedSimpArgs false

theorem doneF_c (w : World) (r : Option Addr) (n c : Nat) (hn : n ≤ 1000) : Calls Try.prog 136 #[.slice r n c] w fun e w' => e = .returned (.bool (decide (0 < n))) ∧ w' = w := by
  by_cases h0 : n = 0
  · have h1 : ¬ ((0 : Int) < (n : Int)) := by omega
    have HF := hid (show decide (0 < n) = false from decide_eq_false (by omega))
    go_enter Try.func136, Try.ntmps136
    go_wp2
    go_ret
    exact ⟨by first | rfl | exact ret_bool4 HF.out.symm, rfl⟩
  · have h1 : (0 : Int) < (n : Int) := by omega
    have HF := hid (show decide (0 < n) = true from decide_eq_true (by omega))
    go_enter Try.func136, Try.ntmps136
    go_wp2
    go_ret
    exact ⟨by first | rfl | exact ret_bool4 HF.out.symm, rfl⟩
set_option maxRecDepth 100000 in
theorem idxF_c (w : World) (a : Option Addr) (n cap : Nat) (bf : List (List (Int × Int))) (h : RdW w a bf) (hn : bf.length = n) (hl : n ≤ 1000) (h7 : ∀ (b : Nat) (r : List (Int × Int)), bf[b]? = some r → r.length ≤ 7) :
    Calls Try.prog 139 #[.slice a n cap, .func (.func 136) #[] #[]] w fun e w' => ∃ r : Int, e = .returned (.int .i64 r) ∧ (0 ≤ r ↔ bf.all (·.isEmpty) = false) ∧ w = w' := by
  have HN := hid hn
  have HR := hid h
  have H7 := hid h7
  have HF := hid (fun w r n c hn => doneF_c w r n c hn)
  clear hn h h7
  go_enter Try.func139, Try.ntmps139
  go_wp2
  go_loop [8] (fun i => ∃ k : Nat, k ≤ n ∧ i = .int .i64 k ∧ Hid (∀ (j : Nat) (y : List (Int × Int)), j < k → bf[j]? = some y → y.isEmpty = true)) (fun i => n - (intOf i).toNat)
  case atStart => exact ⟨0, Nat.zero_le _, rfl, hid (fun j y hj => by omega)⟩
  case round =>
    obtain ⟨k, hk, rfl, HS⟩ := hrel
    by_cases hlt : k < n
    · obtain ⟨y, hy⟩ : ∃ y, bf[k]? = some y := ⟨_, List.getElem?_eq_getElem (by rw [HN.out]; exact hlt)⟩
      obtain ⟨b, off, r, c, hab, hbl, hcell, _, _⟩ := HR.out.at' hy
      subst hab
      have hy7 := H7.out k y hy
      have HX := hid hy
      obtain ⟨l, hl'⟩ : ∃ l, l = y.length := ⟨_, rfl⟩
      have HL := hid hl'
      rw [← hl'] at hcell hy7
      clear hy hl'
      go_wp2_with fail
      refine (HF.out _ _ _ _ (by omega)).mono ?_
      rintro e w2 ⟨rfl, rfl⟩
      by_cases hl0 : l = 0
      · rw [decide_eq_false (by omega : ¬ 0 < l)]
        go_wp2_with fail
        go_round
        case rel => exact ⟨k + 1, by omega, by go_num, hid (fun j z hj hz => by
          by_cases hjk : j = k
          · subst hjk; rw [HX.out] at hz; cases hz; rw [List.isEmpty_iff]; exact List.eq_nil_of_length_eq_zero (by rw [← HL.out]; exact hl0)
          · exact HS.out j z (by omega) hz)⟩
        case measure => simp [intOf]; omega
      · rw [decide_eq_true (by omega : 0 < l)]
        go_wp2
        go_ret
        refine ⟨_, rfl, ⟨fun _ => ?_, fun _ => by omega⟩, rfl⟩
        exact List.all_eq_false.2 ⟨y, List.mem_of_getElem? HX.out, by
          cases y with
          | nil => exact absurd HL.out hl0
          | cons _ _ => simp⟩
    · go_wp2
      go_ret
      refine ⟨_, rfl, ⟨fun h => by omega, fun hm => ?_⟩, rfl⟩
      exfalso
      obtain ⟨y, hy, hne⟩ := hm
      obtain ⟨j, hj⟩ := List.mem_iff_getElem?.1 hy
      exact hne (List.isEmpty_iff.1 <| HS.out j y (by have := HN.out; have := (List.getElem?_eq_some_iff.1 hj).1; omega) hj)
theorem cfF_c (w : World) (a : Option Addr) (n cap : Nat) (bf : List (List (Int × Int))) (h : RdW w a bf) (hn : bf.length = n) (hl : n ≤ 1000) (h7 : ∀ (b : Nat) (r : List (Int × Int)), bf[b]? = some r → r.length ≤ 7) :
    Calls Try.prog 135 #[.slice a n cap, .func (.func 136) #[] #[]] w fun e w' => e = .returned (.bool (!(bf.all (·.isEmpty)))) ∧ w = w' := by
  have HI := hid (idxF_c w a n cap bf h hn hl h7)
  obtain ⟨A, hA⟩ : ∃ A, A = bf.all (·.isEmpty) := ⟨_, rfl⟩
  rw [← hA] at HI ⊢
  clear h hn h7 hA
  go_enter Try.func135, Try.ntmps135
  go_wp2_with fail
  refine HI.out.mono ?_
  rintro e w2 ⟨r, rfl, hr, rfl⟩
  have HR := hid hr
  clear hr
  cases A
  · have h0 : (0 : Int) ≤ r := HR.out.2 rfl
    go_wp2
    go_ret
    exact ⟨by first | rfl | (simp; done) | (simp; omega), rfl⟩
  · have h0 : ¬ ((0 : Int) ≤ r) := fun h => by cases HR.out.1 h
    go_wp2
    go_ret
    exact ⟨by first | rfl | (simp; done) | (simp; omega), rfl⟩
theorem bufDone_c (w : World) (g : Nat) (p : Prg) (split : Bool) (s : St) (h : BAt w g p split s) (hv : Shape p) :
    Calls Try.prog 128 #[.pointer (some ⟨g, 0, none⟩)] w fun e w' => e = .returned (.bool (done4 p s)) ∧ Below w.heap.size w w' := by
  have HD := hid (allDone_c w g p s h.v hv)
  have hbl := h.good.blen hv
  have HI := hid (fun w a cap (h' : RdW w a s.buf) => cfF_c w a s.buf.length cap s.buf h' rfl (by omega) (fun b r hr => h.good.rlen hv hr))
  obtain ⟨wa, wc, _, c17, hrw, _⟩ := h.more hv
  have hgl := h.lt
  have HRW := hid hrw
  have HE := hid (show done4 p s = (s.buf.all (·.isEmpty) && done3 p s) from rfl)
  obtain ⟨bl, hbn⟩ : ∃ bl, bl = s.buf.length := ⟨_, rfl⟩
  rw [← hbn] at c17 hbl HI
  obtain ⟨D, hD⟩ : ∃ D, D = done3 p s := ⟨_, rfl⟩
  rw [← hD] at HD HE
  clear h hv hrw hbn hD
  go_enter Try.func128, Try.ntmps128
  go_wp2_with fail
  refine HD.out.mono ?_
  rintro e w2 ⟨rfl, hb2⟩
  have HB2 := hid hb2
  have c17w := (hb2.cell (p := ⟨g, 17, none⟩) hgl).trans c17
  have HR2 := hid (HRW.out.below hb2)
  clear hb2
  cases D
  · rw [Bool.and_false] at HE
    go_wp2
    go_ret
    exact ⟨ret_bool4 HE.out.symm, HB2.out⟩
  · rw [Bool.and_true] at HE
    go_wp2_with fail
    refine (HI.out _ _ _ HR2.out).mono ?_
    rintro e w3 ⟨rfl, rfl⟩
    go_wp2
    go_ret
    exact ⟨by rw [HE.out]; first | rfl | simp, HB2.out⟩
end Go.Proofs.Ytbncmeggnhggkaa
namespace Go.Proofs.Ytbncmeggnhggkaa
open Go.RowKit
set_option linter.unusedVariables false
set_option linter.unusedSimpArgs false

/-- The machine with store buffers. -/
def bufM (p : Prg) (split : Bool) (hv : Shape p) : Mach St where
  T := 100
  lies w b s := BAt w b p split s
  later h hb := h.below hb
  mv s := moves4 p s split
  st s m := do4 p s split m.toNat
  dn := done4 p
  out := out3
  fm := 130
  fa := 127
  fd := 128
  fo := 123
  mvlen {_ _ s} h := by have := moves4_len h.good hv; omega
  moves_c w b s h := bufMoves_c w b p split s h hv
  after_c w b s m h hm := by
    obtain ⟨t, rfl, h1, h2⟩ := (mem_moves4 m).1 hm
    rw [Int.toNat_natCast]
    by_cases ht : t < p.length
    · unfold can4 at h2
      rw [if_pos ht] at h2
      exact bufAfterT_c w b p split s t h hv ht h2
    · obtain ⟨k, rfl⟩ : ∃ k, t = p.length + k := ⟨t - p.length, by omega⟩
      unfold can4 at h2
      rw [if_neg ht, Nat.add_sub_cancel_left] at h2
      have hf : do4 p s split (p.length + k) = flush4 p s k := by
        unfold Proofs.Ytbncmeggnhggkaa.do4
        rw [if_neg ht, Nat.add_sub_cancel_left]
      rw [hf]
      cases hr : row4 s k with
      | nil => rw [hr] at h2; simp at h2
      | cons e es =>
        obtain ⟨el, ev⟩ := e
        exact bufAfterF_c w b p split s k el ev es h hv (by omega) hr
  done_c w b s h := bufDone_c w b p split s h hv
  outcome_c w b s h := outcome_c w b p s h.v hv
  hm b w := by kernel_rfl
  ha b w := by kernel_rfl
  hd b w := by kernel_rfl
  ho b w := by kernel_rfl
  cm args w := run_callFunc Try.func130 rfl rfl args w
  ca args w := run_callFunc Try.func127 rfl rfl args w
  cd args w := run_callFunc Try.func128 rfl rfl args w
  co args w := run_callFunc Try.func123 rfl rfl args w

set_option maxRecDepth 100000 in
set_option maxHeartbeats 800000 in
theorem rmI_c (w : World) (a : Option Addr) (cap : Nat) (p : Prg) (split : Bool) (a' : Option Addr) (cap' : Nat) (ms : List Int) (h : RdP w a p) (h' : Rd w a' (ints ms)) (hl : sizeP p ≤ 1048576) (hl' : ms.length ≤ 1048576) :
    Calls Try.prog 23 #[.slice a p.length cap, .bool split, .slice a' ms.length cap'] w (RetLB w (runMov p split ms)) := by
  have HV := hid (pvI_c w a cap p h hl)
  by_cases hv : progValid p = true
  · rw [hv] at HV
    have hsh := (valid_of hv).toShape
    have HRES := hid (show runMov p split ms = runRes (done4 p) out3 (mRun p split ms) by unfold runMov; rw [if_pos hv])
    have HNEW := hid (fun w h => newBuffers_c w a cap p split h hsh)
    have HFIN := hid (fun w b s h hm => finished_c (bufM p split hsh) w b s a' cap' ms h hm hl')
    have HP := hid h
    have HM := hid h'
    rw [HRES.out]
    clear hv hl hl' h h' HRES
    go_enter Try.func23, Try.ntmps23
    go_wp2_with fail
    refine HV.out.mono ?_
    rintro e w1 ⟨rfl, hb1⟩
    have HB1 := hid hb1
    clear hb1
    go_wp2_with fail
    refine (HNEW.out _ (HP.out.below HB1.out)).mono ?_
    rintro e w2 ⟨g2, rfl, hat, hb2⟩
    have HAT := hid hat
    have HB2 := hid (HB1.out.trans (hb2.mono HB1.out.size))
    clear hat hb2
    go_wp2_with fail
    refine (HFIN.out _ _ (start4 p split) HAT.out (HM.out.below HB2.out)).mono ?_
    rintro e w3 ⟨a3, c3, rfl, ho3, hb3⟩
    have HO3 := hid ho3
    have HB3 := hid hb3
    clear ho3 hb3
    go_wp2
    go_ret2
    exact ⟨a3, c3, rfl, own_base HO3.out HB2.out.size, HB2.out.trans (HB3.out.mono HB2.out.size)⟩
  · have hv : progValid p = false := by simpa using hv
    rw [hv] at HV
    have HRES := hid (show runMov p split ms = ([], false) by unfold runMov; rw [hv]; rfl)
    rw [HRES.out]
    clear hv h h' hl hl' HRES
    go_enter Try.func23, Try.ntmps23
    go_wp2_with fail
    refine HV.out.mono ?_
    rintro e w1 ⟨rfl, hb1⟩
    have HB1 := hid hb1
    clear hb1
    go_wp2
    go_ret2
    exact retLB_nil HB1.out
end Go.Proofs.Ytbncmeggnhggkaa
namespace Go.Proofs.Ytbncmeggnhggkaa
open Go.RowKit
set_option linter.unusedVariables false
set_option linter.unusedSimpArgs false

set_option maxRecDepth 100000 in
set_option maxHeartbeats 800000 in
theorem maI_c (w : World) (a : Option Addr) (cap : Nat) (p : Prg) (split : Bool) (a' : Option Addr) (cap' : Nat) (ms : List Int) (h : RdP w a p) (h' : Rd w a' (ints ms)) (hl : sizeP p ≤ 1048576) (hl' : ms.length ≤ 1048576) :
    Calls Try.prog 21 #[.slice a p.length cap, .bool split, .slice a' ms.length cap'] w (RetL w (movAft p split ms)) := by
  have HV := hid (pvI_c w a cap p h hl)
  by_cases hv : progValid p = true
  · rw [hv] at HV
    have hsh := (valid_of hv).toShape
    have HRES := hid (show movAft p split ms = (match mRun p split ms with | some s => moves4 p s split | none => []) by unfold movAft; rw [if_pos hv]; rfl)
    have HNEW := hid (fun w h => newBuffers_c w a cap p split h hsh)
    obtain ⟨M, hM⟩ : ∃ M, M = bufM p split hsh := ⟨_, rfl⟩
    have HFOL := hid (fun w b s h hm => follow_c M w b s a' cap' ms h hm hl')
    have HLI := hid (show ∀ w b s, BAt w b p split s → M.lies w b s from by rw [hM]; intro w b s h; exact h)
    have HTT := hid (show M.T = 100 from by rw [hM]; rfl)
    have HRU := hid (show Proofs.Ytbncmeggnhggkaa.follow M.mv M.st (start4 p split) ms = mRun p split ms from by rw [hM]; rfl)
    have HMM := hid (show ∀ s, M.mv s = moves4 p s split from by rw [hM]; intro s; rfl)
    have HP := hid h
    have HM := hid h'
    clear hv hl hl' h h' hM
    go_enter Try.func21, Try.ntmps21
    go_wp2_with fail
    refine HV.out.mono ?_
    rintro e w1 ⟨rfl, hb1⟩
    have HB1 := hid hb1
    clear hb1
    go_wp2_with fail
    refine (HNEW.out _ (HP.out.below HB1.out)).mono ?_
    rintro e w2 ⟨g2, rfl, hat, hb2⟩
    have HAT := hid (HLI.out _ _ _ hat)
    have HB2 := hid (HB1.out.trans (hb2.mono HB1.out.size))
    clear hat hb2
    rw [← HTT.out]
    go_wp2_with fail
    refine (HFOL.out _ _ (start4 p split) HAT.out (HM.out.below HB2.out)).mono ?_
    rintro e w3 ⟨hfr, hb3⟩
    rw [HRU.out] at hfr
    have HB3 := hid (HB2.out.trans (hb3.mono HB2.out.size))
    clear hb3
    cases hm : mRun p split ms with
    | none =>
      rw [hm] at hfr
      have hfr : e = .returned (.tuple #[.nilIface, .bool false]) := hfr
      subst hfr
      have HF := hid (show movAft p split ms = [] from by rw [HRES.out, hm])
      clear hm
      go_wp2
      go_ret
      rw [HF.out]
      exact ⟨none, 0, rfl, own_none _ _ _ 1, HB3.out⟩
    | some s =>
      rw [hm] at hfr
      obtain ⟨b, rfl, hls⟩ := hfr
      have HF := hid (show movAft p split ms = M.mv s from by rw [HRES.out, hm, HMM.out])
      have HMV := hid (M.moves_c w3 b s hls)
      obtain ⟨L, hL⟩ : ∃ L, L = M.mv s := ⟨_, rfl⟩
      rw [← hL] at HMV HF
      have hm1 := M.hm b
      have hcm1 := M.cm
      clear hm hls hL
      go_wp2_with fail
      refine HMV.out.mono ?_
      rintro e w4 ⟨ma, mc, rfl, hown, hb4⟩
      have HO4 := hid hown
      have HB4 := hid hb4
      clear hown hb4
      go_wp2
      go_ret
      rw [HF.out]
      exact ⟨ma, mc, rfl, own_base HO4.out HB3.out.size, HB3.out.trans (HB4.out.mono HB3.out.size)⟩
  · have hv : progValid p = false := by simpa using hv
    rw [hv] at HV
    have HRES := hid (show movAft p split ms = [] by unfold movAft; rw [hv]; rfl)
    rw [HRES.out]
    clear hv h h' hl hl' HRES
    go_enter Try.func21, Try.ntmps21
    go_wp2_with fail
    refine HV.out.mono ?_
    rintro e w1 ⟨rfl, hb1⟩
    have HB1 := hid hb1
    clear hb1
    go_wp2
    go_ret
    exact ⟨none, 0, rfl, own_none _ _ _ 1, HB1.out⟩
end Go.Proofs.Ytbncmeggnhggkaa
