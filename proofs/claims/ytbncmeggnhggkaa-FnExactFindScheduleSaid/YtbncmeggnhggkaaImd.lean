/-
  PROVED HERE: what newSeq, (*seq).moves, done do. CONDITIONS: as each theorem states.
-/
import Derived.Test.YtbncmeggnhggkaaImc
import Derived.Test.YtbncmeggnhggkaaSpd
namespace Go.Proofs.Ytbncmeggnhggkaa
open Go.RowKit
set_option linter.unusedVariables false
set_option linter.unusedSimpArgs false

/-- The state s of a machine of type T, whose other cells are ex, lies at block g. -/
structure MAt (T : TypeId) (ex : List Value) (w : World) (g : Nat) (p : Prg) (s : St) : Prop where
  at_ : ∃ a cap, w.heap[g]? = some (.cells (valC a p.length cap s ++ ex).toArray T (0, 0)) ∧ RdP w a p
  good : Good p s
theorem MAt.v {T : TypeId} {ex : List Value} {w : World} {g : Nat} {p : Prg} {s : St} (h : MAt T ex w g p s) : VAt w g p s := by
  obtain ⟨⟨a, cap, h1, h2⟩, hg⟩ := h
  exact ⟨⟨a, cap, ex, T, h1, h2⟩, hg⟩
theorem MAt.below {T : TypeId} {ex : List Value} {w w' : World} {g : Nat} {p : Prg} {s : St} (h : MAt T ex w g p s) (hb : Below w.heap.size w w') : MAt T ex w' g p s := by
  obtain ⟨⟨a, cap, h1, h2⟩, hg⟩ := h
  exact ⟨⟨a, cap, by rw [hb.block g (Array.getElem?_eq_some_iff.1 h1).1]; exact h1, h2.below hb⟩, hg⟩
theorem valC_start (a : Option Addr) (n cap : Nat) (p : Prg) (hp : p.length ≤ 3) (b : Nat) : valC a n cap (start3 p b) = .slice a n cap :: List.replicate 15 (.int .u8 0) := by
  have e1 : pad 3 (List.replicate p.length 0) = List.replicate 3 0 := by
    unfold pad
    rw [List.length_replicate, ← List.replicate_append_replicate.symm]
    congr 1
    omega
  have e2 : pad 9 (List.replicate (p.length * 3) 0) = List.replicate 9 0 := by
    unfold pad
    rw [List.length_replicate, ← List.replicate_append_replicate.symm]
    congr 1
    omega
  unfold valC start3
  dsimp only
  rw [e1, e2]
  rfl

theorem newSeq_c (w : World) (a : Option Addr) (cap : Nat) (p : Prg) (h : RdP w a p) (hv : Shape p) :
    Calls Try.prog 41 #[.slice a p.length cap] w fun e w' => e = .returned (.iface 88 (.pointer (some ⟨w.heap.size, 0, none⟩))) ∧ MAt 94 [] w' w.heap.size p (start3 p 0) ∧ Below w.heap.size w w' := by
  have HV := hid (valC_start a p.length cap p hv.len 0)
  have HG := hid (good_start p 0)
  have HP := hid h
  obtain ⟨n, hn⟩ : ∃ n, n = p.length := ⟨_, rfl⟩
  have HN := hid hn
  rw [← hn] at HV ⊢
  clear hn h hv
  go_enter Try.func41, Try.ntmps41
  go_wp2
  go_ret
  refine ⟨rfl, ⟨⟨a, cap, ?_, ?_⟩, HG.out⟩, (Below.refl _ _).alloc (Nat.le_refl _) _⟩
  · rw [← HN.out, HV.out]
    exact heap_alloc_new w _
  · exact HP.out.below ((Below.refl _ _).alloc (Nat.le_refl _) _)

def movesTo (p : Prg) (s : St) (k : Nat) : List Int := ((List.range k).filter (goes p s)).map fun (t : Nat) => (t : Int)
theorem movesTo_succ (p : Prg) (s : St) (k : Nat) : movesTo p s (k + 1) = movesTo p s k ++ if goes p s k then [(k : Int)] else [] := by
  unfold movesTo
  rw [List.range_succ, List.filter_append, List.map_append]
  congr 1
  by_cases h : goes p s k = true
  · simp [h]
  · simp [h]
theorem movesTo_len (p : Prg) (s : St) (k : Nat) : (movesTo p s k).length ≤ k := by
  unfold movesTo
  rw [List.length_map]
  have := List.length_filter_le (goes p s) (List.range k)
  simpa using this

set_option maxHeartbeats 1600000 in
theorem seqMoves_c (w : World) (g : Nat) (p : Prg) (s : St) (h : VAt w g p s) (hv : Shape p) :
    Calls Try.prog 122 #[.pointer (some ⟨g, 0, none⟩)] w (RetL w (moves3 p s)) := by
  obtain ⟨a, cap, hrp, h0, _, _, _⟩ := h.cells hv
  have HAT := hid h
  have HNX := hid (fun w (h : VAt w g p s) (t : Nat) (ht : t < p.length) => next_c w g p s t h hv ht)
  have HM := hid (show movesTo p s p.length = moves3 p s from rfl)
  have HL := hid (movesTo_len p s)
  have HS := hid (movesTo_succ p s)
  obtain ⟨n, hn⟩ : ∃ n, n = p.length := ⟨_, rfl⟩
  have hn3 : n ≤ 3 := by rw [hn]; exact hv.len
  rw [← hn] at h0 HNX HM
  have hgl : g < w.heap.size := World.block_lt_of_cell? w ⟨g, 0, none⟩ h0
  clear hn h hv hrp
  rw [← HM.out]
  go_enter Try.func122, Try.ntmps122
  go_wp2_with fail
  go_loopw [3, 13] (fun v i wr => ∃ k : Nat, k ≤ n ∧ i = .int .i64 k ∧ Hid (wr.ownsRow w.heap.size 3 1 v (movesTo p s k).length (ints (movesTo p s k))) ∧ Hid (Below w.heap.size w wr)) (fun _ i _ => n - (intOf i).toNat)
  case atStart => exact ⟨0, Nat.zero_le _, rfl, hid (by simpa [movesTo] using own_none w w.heap.size 3 1), hid (Below.refl _ _)⟩
  case round =>
    obtain ⟨k, hk, rfl, HO, HB⟩ := hrel
    by_cases hlt : k < n
    · have HC := hid (HNX.out wr (HAT.out.below HB.out) k hlt)
      have HSK := hid (HS.out k)
      have hll := HL.out k
      by_cases hgo : goes p s k = true
      · rw [hgo, if_pos rfl] at HSK
        rw [hgo] at HC
        simp only [↓reduceIte] at HC
        obtain ⟨x, hx⟩ : ∃ x, x = nxt p s k := ⟨_, rfl⟩
        rw [← hx] at HC
        clear hx
        obtain ⟨op, loc, reg, val⟩ := x
        obtain ⟨L, eL⟩ : ∃ L, L = movesTo p s k := ⟨_, rfl⟩
        rw [← eL] at HSK hll HO
        clear hgo eL
        go_wp2_with fail
        refine HC.out.mono ?_
        rintro e w2 ⟨rfl, hb2⟩
        have HB2 := hid ((HB.out.trans (hb2.mono HB.out.size)).alloc (by have := hb2.size; have := HB.out.size; omega) (.cells #[.int .i64 op, .int .i64 loc, .int .i64 reg, .int .i64 val] 79))
        obtain ⟨a1, cap1, rfl, _⟩ := own_shape HO.out
        have HO2 := hid (World.ownsRow.alloc (own_below HO.out hb2) (.cells #[.int .i64 op, .int .i64 loc, .int .i64 reg, .int .i64 val] 79))
        have hs2 := hb2.size
        have hs1 := HB.out.size
        clear hb2
        go_wp2_with (at_builtin; refine wpList_append_one rfl (.tmp 25) (.tmp 27) 23 rfl w.heap.size 3 (.int .i64 0) 8 Try.underlying23 Try.info_int rfl _ _ _ rfl (HO2.out.alloc _) _ (.int .i64 k) rfl (by simp) rfl (by omega) (by omega) (by simp; omega) ?_)
        intro v1 w4 hown1 hgrow1
        have HO4 := hid (own_snoc (w := w) hown1)
        rw [← HSK.out] at HO4
        have HB4 := hid ((HB2.out.alloc HB2.out.size _).grown hgrow1 (by simp; omega) (fun b hb => (HO2.out.lt b hb).1))
        clear hown1 hgrow1
        go_wp2_with fail
        go_roundw
        case rel => exact ⟨k + 1, by omega, by go_num, HO4, HB4⟩
        case measure => simp [intOf]; omega
      · have hgo : goes p s k = false := by simpa using hgo
        rw [hgo, if_neg (by decide), List.append_nil] at HSK
        rw [hgo] at HC
        simp only [Bool.false_eq_true, ↓reduceIte] at HC
        clear hgo
        go_wp2_with fail
        refine HC.out.mono ?_
        rintro e w2 ⟨rfl, hb2⟩
        have HB2 := hid (HB.out.trans (hb2.mono HB.out.size))
        have HO2 := hid (own_below HO.out hb2)
        have HO3 := hid (HO2.out.alloc (.cells #[.int .i64 0, .int .i64 0, .int .i64 0, .int .i64 0] 79))
        rw [← HSK.out] at HO3
        clear hb2
        go_wp2_with fail
        go_roundw
        case rel => exact ⟨k + 1, by omega, by go_num, HO3, hid (HB2.out.alloc HB2.out.size _)⟩
        case measure => simp [intOf]; omega
    · obtain rfl : k = n := by omega
      obtain ⟨a1, cap1, rfl, _⟩ := own_shape HO.out
      go_wp2
      go_ret
      exact ⟨_, _, rfl, HO.out, HB.out⟩

theorem seqDone_c (w : World) (g : Nat) (p : Prg) (s : St) (h : VAt w g p s) (hv : Shape p) :
    Calls Try.prog 120 #[.pointer (some ⟨g, 0, none⟩)] w fun e w' => e = .returned (.bool (done3 p s)) ∧ Below w.heap.size w w' := by
  have HD := hid (allDone_c w g p s h hv)
  clear h hv
  go_enter Try.func120, Try.ntmps120
  go_wp2_with fail
  refine HD.out.mono ?_
  rintro e w2 ⟨rfl, hb2⟩
  go_wp2
  go_ret
  exact ⟨rfl, hb2⟩
end Go.Proofs.Ytbncmeggnhggkaa
