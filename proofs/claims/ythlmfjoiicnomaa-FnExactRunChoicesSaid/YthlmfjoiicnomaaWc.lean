/-
  PROVED HERE: what newViews does; cells of a block that is known as a list. CONDITIONS: as each theorem states.
-/
import Derived.Test.YthlmfjoiicnomaaWb
namespace Go.Proofs.Ythlmfjoiicnomaa
open Go.RowKit
set_option linter.unusedVariables false
set_option linter.unusedSimpArgs false

theorem heap_setL {w : World} {g : Nat} {C : List Value} {T : TypeId} (h : w.heap[g]? = some (.cells C.toArray T (0, 0))) (j : Nat) (v : Value) : (w.setCell ⟨g, j, none⟩ v).heap[g]? = some (.cells (C.set j v).toArray T (0, 0)) := by
  rw [heap_setCell_same w g j _ _ v h, List.setIfInBounds_toArray]
theorem cell_L {w : World} {g : Nat} {C : List Value} {T : TypeId} (h : w.heap[g]? = some (.cells C.toArray T (0, 0))) {j : Nat} {v : Value} (hj : C[j]? = some v) : w.cell? ⟨g, j, none⟩ = some v := by
  rw [cell_of_row w g j _ _ _ h, List.getElem?_toArray]
  exact hj
theorem padV_start (n : Nat) (h : n ≤ 3) : padV (List.replicate n [0, 0, 0]) = List.replicate 3 [0, 0, 0] := by
  unfold padV
  rw [List.length_replicate, List.replicate_append_replicate]
  congr 1; omega
set_option maxRecDepth 100000 in
set_option maxHeartbeats 1600000 in
theorem newViews_c (w : World) (a : Option Addr) (cap : Nat) (p : Prg) (h : RdP w a p) (hv : Shape p) :
    Calls Try.prog 35 #[.slice a p.length cap] w fun e w' => ∃ g, e = .returned (.iface 102 (.pointer (some ⟨g, 0, none⟩))) ∧ VwAt w' g p (start5 p) ∧ Below w.heap.size w w' := by
  have HP := hid h
  have HG := hid (good_start5 p)
  have HV := hid (valC_start a p.length cap p hv.len 0)
  have HU := hid (padV_start p.length hv.len)
  have HRW := hid (fun l (hl : l < 3) => start_row (p := p) hl)
  have HVW := hid (show (start5 p).view = List.replicate p.length [0, 0, 0] from rfl)
  have HST := hid (show (start5 p).st = start3 p 0 from rfl)
  obtain ⟨n, hn⟩ : ∃ n, n = p.length := ⟨_, rfl⟩
  have HN := hid hn
  rw [← hn] at HV HU HVW ⊢
  clear hn h hv
  go_enter Try.func35, Try.ntmps35
  go_wp2_with fail
  have hst : (w.alloc (.cells #[.slice a n cap, .int .u8 0, .int .u8 0, .int .u8 0, .int .u8 0, .int .u8 0, .int .u8 0, .int .u8 0, .int .u8 0, .int .u8 0, .int .u8 0, .int .u8 0, .int .u8 0, .int .u8 0, .int .u8 0, .int .u8 0, .slice none 0 0, .slice none 0 0, .slice none 0 0, .int .u8 0, .int .u8 0, .int .u8 0, .int .u8 0, .int .u8 0, .int .u8 0, .int .u8 0, .int .u8 0, .int .u8 0] 112)).heap[w.heap.size]? = some (.cells (vwC (valC a n cap (start3 p 0)) (fun _ => (none, 0)) (fun _ => 0) (List.replicate 3 [0, 0, 0])).toArray 112 (0, 0)) := by
    rw [heap_alloc_new w _, HV.out]
    rfl
  have hb : Below w.heap.size w (w.alloc (.cells #[.slice a n cap, .int .u8 0, .int .u8 0, .int .u8 0, .int .u8 0, .int .u8 0, .int .u8 0, .int .u8 0, .int .u8 0, .int .u8 0, .int .u8 0, .int .u8 0, .int .u8 0, .int .u8 0, .int .u8 0, .int .u8 0, .slice none 0 0, .slice none 0 0, .slice none 0 0, .int .u8 0, .int .u8 0, .int .u8 0, .int .u8 0, .int .u8 0, .int .u8 0, .int .u8 0, .int .u8 0, .int .u8 0] 112)) := (Below.refl _ _).alloc (Nat.le_refl _) _
  obtain ⟨g, hg⟩ : ∃ g, g = w.heap.size := ⟨_, rfl⟩
  obtain ⟨w1, hw1⟩ : ∃ w1, w1 = w.alloc (.cells #[.slice a n cap, .int .u8 0, .int .u8 0, .int .u8 0, .int .u8 0, .int .u8 0, .int .u8 0, .int .u8 0, .int .u8 0, .int .u8 0, .int .u8 0, .int .u8 0, .int .u8 0, .int .u8 0, .int .u8 0, .int .u8 0, .slice none 0 0, .slice none 0 0, .slice none 0 0, .int .u8 0, .int .u8 0, .int .u8 0, .int .u8 0, .int .u8 0, .int .u8 0, .int .u8 0, .int .u8 0, .int .u8 0] 112) := ⟨_, rfl⟩
  rw [← hw1, ← hg] at hst hb ⊢
  have HGW := hid hg
  have HST1 := hid hst
  have HB1 := hid hb
  have HHL := hid (show (valC a n cap (start3 p 0)).length = 16 by rw [HV.out]; rfl)
  clear hw1 hg hst hb
  go_loopw [4, 9] (fun _ i wx => ∃ k : Nat, k ≤ 3 ∧ i = .int .i64 k ∧ Hid (∃ (L : Nat → Option Addr × Nat) (N : Nat → Nat), wx.heap[g]? = some (.cells (vwC (valC a n cap (start3 p 0)) L N (List.replicate 3 [0, 0, 0])).toArray 112 (0, 0)) ∧ ∀ l, l < k → N l = 1 ∧ Rd wx (L l).1 (wcells [msZ]) ∧ 1 ≤ (L l).2 ∧ ∀ b, blk (L l).1 = some b → g < b) ∧ Hid (Below g w wx)) (fun _ i _ => 3 - (intOf i).toNat)
  case atStart => exact ⟨0, by omega, rfl, hid ⟨_, _, HST1.out, fun l hl => by omega⟩, HB1⟩
  case round =>
    clear HST1 HB1
    obtain ⟨k, hk, rfl, HS, HB⟩ := hrel
    obtain ⟨L, N, hgr, hrow⟩ := HS.out
    have HG8 := hid hgr
    have HROW := hid hrow
    have hgl : g < wr.heap.size := (Array.getElem?_eq_some_iff.1 hgr).1
    clear HS hgr hrow
    by_cases hk3 : k < 3
    · have hk3' : (k : Int) < 3 := by omega
      have c16 := cell_L HG8.out (vwC_l (L := L) (N := N) (U := List.replicate 3 [0, 0, 0]) HHL.out hk3)
      have f16 := frozen_of_row wr g (16 + k) _ _ HG8.out
      go_wp2_with fail
      have hk1 : Keeps (· = g) wr (wr.setCell ⟨g, 16 + k, none⟩ (.slice (some ⟨wr.heap.size, 0, none⟩) 1 1)) := Keeps.setCell wr ⟨g, 16 + k, none⟩ _
      have HS2 := hid (show ∃ (L : Nat → Option Addr × Nat) (N : Nat → Nat), ((wr.setCell ⟨g, 16 + k, none⟩ (.slice (some ⟨wr.heap.size, 0, none⟩) 1 1)).alloc (.cells #[.int .u8 0, .bool false, .int .u8 0, .int .u8 0, .int .u8 0] 114)).heap[g]? = some (.cells (vwC (valC a n cap (start3 p 0)) L N (List.replicate 3 [0, 0, 0])).toArray 112 (0, 0)) ∧ ∀ l, l < k + 1 → N l = 1 ∧ Rd ((wr.setCell ⟨g, 16 + k, none⟩ (.slice (some ⟨wr.heap.size, 0, none⟩) 1 1)).alloc (.cells #[.int .u8 0, .bool false, .int .u8 0, .int .u8 0, .int .u8 0] 114)) (L l).1 (wcells [msZ]) ∧ 1 ≤ (L l).2 ∧ ∀ b, blk (L l).1 = some b → g < b from by
        refine ⟨setL5 L k (some ⟨wr.heap.size, 0, none⟩, 1), setN5 N k 1, ?_, fun l hl => ?_⟩
        · rw [heap_alloc_old _ _ (by simp; exact hgl), heap_setL HG8.out, vwC_setl HHL.out hk3]
        · by_cases e : l = k
          · subst e
            have hn : ((wr.setCell ⟨g, 16 + l, none⟩ (.slice (some ⟨wr.heap.size, 0, none⟩) 1 1)).alloc (.cells #[.int .u8 0, .bool false, .int .u8 0, .int .u8 0, .int .u8 0] 114)).heap[wr.heap.size]? = some (.cells (wcells [msZ]).toArray 114 (0, 0)) := by
              have := heap_alloc_new (wr.setCell ⟨g, 16 + l, none⟩ (.slice (some ⟨wr.heap.size, 0, none⟩) 1 1)) (.cells #[.int .u8 0, .bool false, .int .u8 0, .int .u8 0, .int .u8 0] 114)
              rwa [show (wr.setCell ⟨g, 16 + l, none⟩ (.slice (some ⟨wr.heap.size, 0, none⟩) 1 1)).heap.size = wr.heap.size by simp] at this
            refine ⟨by unfold setN5; rw [if_pos rfl], ?_, by unfold setL5; rw [if_pos rfl]; exact Nat.le_refl _, fun b hb => ?_⟩
            · unfold setL5
              rw [if_pos rfl]
              exact .inr ⟨wr.heap.size, 0, rfl, by simp, fun j v hj => by rw [Nat.zero_add]; exact cell_L hn hj⟩
            · unfold setL5 at hb
              rw [if_pos rfl] at hb
              have : wr.heap.size = b := by simpa [blk] using hb
              omega
          · obtain ⟨h1, h2, h3, h4⟩ := HROW.out l (by omega)
            refine ⟨by unfold setN5; rw [if_neg e]; exact h1, ?_, by unfold setL5; rw [if_neg e]; exact h3, fun b hb => ?_⟩
            · unfold setL5
              rw [if_neg e]
              exact (h2.keeps hk1 fun b hb e => by have := h4 b hb; have e : b = g := e; omega).alloc _
            · unfold setL5 at hb
              rw [if_neg e] at hb
              exact h4 b hb)
      have HB2 := hid (show Below g w ((wr.setCell ⟨g, 16 + k, none⟩ (.slice (some ⟨wr.heap.size, 0, none⟩) 1 1)).alloc (.cells #[.int .u8 0, .bool false, .int .u8 0, .int .u8 0, .int .u8 0] 114)) from (HB.out.setCell (p := ⟨g, 16 + k, none⟩) (Nat.le_refl _) _).alloc (by simp; omega) _)
      refine ⟨⟨k + 1, by omega, by go_num, HS2, HB2⟩, ?_⟩
      simp [intOf]; omega
    · obtain rfl : k = 3 := by omega
      go_wp2_with fail
      go_ret
      have XYZ : True := trivial
      rw [← HGW.out]
      refine ⟨g, rfl, ⟨⟨a, cap, L, ?_, ?_, fun l hl => ?_⟩, HG.out⟩, HB.out⟩
      · rw [HG8.out, HVW.out, HU.out, HST.out, ← HN.out]
        unfold vwC
        dsimp only
        rw [(HROW.out 0 (by decide)).1, (HROW.out 1 (by decide)).1, (HROW.out 2 (by decide)).1, HRW.out 0 (by decide), HRW.out 1 (by decide), HRW.out 2 (by decide)]
        rfl
      · exact HP.out.below (by rw [HGW.out] at HB; exact HB.out)
      · obtain ⟨_, h2, h3, _⟩ := HROW.out l hl
        rw [HRW.out l hl]
        exact ⟨h2, h3⟩
end Go.Proofs.Ythlmfjoiicnomaa
