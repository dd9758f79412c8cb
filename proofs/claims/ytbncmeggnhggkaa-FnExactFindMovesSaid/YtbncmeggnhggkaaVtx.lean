/-
  PROVED HERE: what (*values).text and (*seq).key do. CONDITIONS: as each theorem states.
-/
import Derived.Test.YtbncmeggnhggkaaImh
import Derived.Test.YtbncmeggnhggkaaKey
namespace Go.Proofs.Ytbncmeggnhggkaa
open Go.RowKit
set_option linter.unusedVariables false
set_option linter.unusedSimpArgs false

/-- The bytes of a state's values. -/
def keyV (s : St) : List Int := pad 3 s.pc ++ (pad 9 s.regs ++ s.mem)
theorem keyV_len {s : St} (h : ValLen s) : (keyV s).length = 15 := by
  unfold keyV
  simp [length_pad h.pc, length_pad h.regs, h.mem]
theorem rd_cells {w : World} {g o : Nat} {xs : List Int} (hg : g < w.heap.size) (h : ∀ j x, xs[j]? = some x → w.cell? ⟨g, o + j, none⟩ = some (.int .u8 x)) : Rd w (some ⟨g, o, none⟩) (kbs xs) :=
  .inr ⟨g, o, rfl, hg, fun j u hj => by
    rw [List.getElem?_map] at hj
    obtain ⟨x, hx, rfl⟩ := Option.map_eq_some_iff.1 hj
    exact h j x hx⟩
theorem fifteen {ys : List Int} (h : ys.length = 15) : ∃ y0 y1 y2 y3 y4 y5 y6 y7 y8 y9 y10 y11 y12 y13 y14, ys = [y0, y1, y2, y3, y4, y5, y6, y7, y8, y9, y10, y11, y12, y13, y14] := by
  match ys, h with
  | [y0, y1, y2, y3, y4, y5, y6, y7, y8, y9, y10, y11, y12, y13, y14], _ => exact ⟨_, _, _, _, _, _, _, _, _, _, _, _, _, _, _, rfl⟩
theorem rd_three (w : World) (x y z : Int) (t : TypeId) : Rd (w.alloc (.cells #[.int .u8 x, .int .u8 y, .int .u8 z] t)) (some ⟨w.heap.size, 0, none⟩) (kbs [x, y, z]) :=
  rd_cells (by simp) fun j u hj => by
    rw [Nat.zero_add, cell_of_row _ _ j _ _ _ (heap_alloc_new w _)]
    match j, hj with
    | 0, hj => simp at hj; subst hj; rfl
    | 1, hj => simp at hj; subst hj; rfl
    | 2, hj => simp at hj; subst hj; rfl
    | k + 3, hj => simp at hj
theorem kbs_one (xs : List Int) : ∀ u ∈ kbs xs, u.oneCell' = true := ints_one .u8 xs
theorem run_index9_0 (w : World) (y3 y4 y5 y6 y7 y8 y9 y10 y11 : Int) : (Instr.index 90 (.agg #[.int .u8 y3, .int .u8 y4, .int .u8 y5, .int .u8 y6, .int .u8 y7, .int .u8 y8, .int .u8 y9, .int .u8 y10, .int .u8 y11]) (.int .i64 0)).run Try.prog w = .ok (.agg #[.int .u8 y3, .int .u8 y4, .int .u8 y5]) w := by kernel_rfl
theorem run_index9_1 (w : World) (y3 y4 y5 y6 y7 y8 y9 y10 y11 : Int) : (Instr.index 90 (.agg #[.int .u8 y3, .int .u8 y4, .int .u8 y5, .int .u8 y6, .int .u8 y7, .int .u8 y8, .int .u8 y9, .int .u8 y10, .int .u8 y11]) (.int .i64 1)).run Try.prog w = .ok (.agg #[.int .u8 y6, .int .u8 y7, .int .u8 y8]) w := by kernel_rfl
theorem run_index9_2 (w : World) (y3 y4 y5 y6 y7 y8 y9 y10 y11 : Int) : (Instr.index 90 (.agg #[.int .u8 y3, .int .u8 y4, .int .u8 y5, .int .u8 y6, .int .u8 y7, .int .u8 y8, .int .u8 y9, .int .u8 y10, .int .u8 y11]) (.int .i64 2)).run Try.prog w = .ok (.agg #[.int .u8 y9, .int .u8 y10, .int .u8 y11]) w := by kernel_rfl
set_option maxRecDepth 100000 in
set_option maxHeartbeats 3200000 in
theorem text_c (w : World) (g : Nat) (p : Prg) (s : St) (h : VAt w g p s) (hv : Shape p) :
    Calls Try.prog 126 #[.pointer (some ⟨g, 0, none⟩)] w fun e w' => e = .returned (.string (strOfNums (keyV s))) ∧ Below w.heap.size w w' := by
  obtain ⟨⟨a, cap, ex, T, hh, _⟩, hgood⟩ := h
  have hl := hgood.vlen hv
  have hlen := keyV_len hl
  have hval : valC a p.length cap s = .slice a p.length cap :: kbs (keyV s) := by
    unfold valC keyV
    simp [List.map_append]
  rw [hval] at hh
  clear hval
  obtain ⟨ys, hys⟩ : ∃ ys, ys = keyV s := ⟨_, rfl⟩
  rw [← hys] at hh hlen ⊢
  clear hys
  obtain ⟨y0, y1, y2, y3, y4, y5, y6, y7, y8, y9, y10, y11, y12, y13, y14, rfl⟩ := fifteen hlen
  have hgl : g < w.heap.size := (Array.getElem?_eq_some_iff.1 hh).1
  have HH := hid hh
  have HC := hid (fun w' (hb : Below w.heap.size w w') j x (hj : [y0, y1, y2, y3, y4, y5, y6, y7, y8, y9, y10, y11, y12, y13, y14][j]? = some x) => show w'.cell? ⟨g, 1 + j, none⟩ = some (.int .u8 x) from by
    rw [cell_of_row w' g (1 + j) _ _ _ ((hb.block _ hgl).trans hh)]
    simp only [List.getElem?_toArray]
    rw [List.getElem?_append_left (by have := (List.getElem?_eq_some_iff.1 hj).1; simp at this ⊢; omega), Nat.add_comm, List.getElem?_cons_succ, List.getElem?_map, hj]
    rfl)
  have HB0 := hid ((Below.refl w.heap.size w).alloc (Nat.le_refl _) (.cells #[] 5))
  have HO0 := hid (own_lit0 w w.heap.size 5 1 (Nat.le_refl _))
  have HR1 := hid (rd_cells (w := w.alloc (.cells #[] 5)) (g := g) (o := 1) (xs := [y0, y1, y2]) (by simp; omega) (fun j x hj => HC.out _ HB0.out j x (by
    match j, hj with
    | 0, hj => exact hj
    | 1, hj => exact hj
    | 2, hj => exact hj
    | k + 3, hj => simp at hj)))
  have hi0 := fun w => run_index9_0 w y3 y4 y5 y6 y7 y8 y9 y10 y11
  have hi1 := fun w => run_index9_1 w y3 y4 y5 y6 y7 y8 y9 y10 y11
  have hi2 := fun w => run_index9_2 w y3 y4 y5 y6 y7 y8 y9 y10 y11
  clear hh hlen hl hgood
  go_enter Try.func126, Try.ntmps126
  go_wp2_with (at_builtin; refine wpList_append_rd rfl (.tmp 6) (.tmp 10) 138 rfl w.heap.size 5 (.int .u8 0) 1 1 Try.underlying138 Try.info_u8 rfl (by decide) _ _ _ rfl HO0.out _ 3 3 (kbs [y0, y1, y2]) rfl HR1.out rfl (kbs_one _) (by omega) (by decide) (by simp) ?_)
  intro v1 w1 hown1 hgrow1 _
  have HO1 := hid (show w1.ownsRow w.heap.size 5 1 v1 3 (kbs [y0, y1, y2]) from own_cast hown1 rfl rfl)
  have HB1 := hid (HB0.out.grown hgrow1 (by simp) (fun b hb => by rw [ownBlock_slice] at hb; have := Option.some.inj hb; simp at this; omega))
  clear hown1 hgrow1 HR1 HO0
  have c4 := HC.out w1 HB1.out 3 _ rfl
  have c5 := HC.out w1 HB1.out 4 _ rfl
  have c6 := HC.out w1 HB1.out 5 _ rfl
  have c7 := HC.out w1 HB1.out 6 _ rfl
  have c8 := HC.out w1 HB1.out 7 _ rfl
  have c9 := HC.out w1 HB1.out 8 _ rfl
  have c10 := HC.out w1 HB1.out 9 _ rfl
  have c11 := HC.out w1 HB1.out 10 _ rfl
  have c12 := HC.out w1 HB1.out 11 _ rfl
  go_wp2_with fail
  clear c4 c5 c6 c7 c8 c9 c10 c11 c12
  go_loopw [3, 5, 16] (fun v _ i wr => ∃ k : Nat, k ≤ 3 ∧ i = .int .i64 k ∧ Hid (wr.ownsRow w.heap.size 5 1 v (3 + 3 * k) (kbs ([y0, y1, y2, y3, y4, y5, y6, y7, y8, y9, y10, y11].take (3 + 3 * k)))) ∧ Hid (Below w.heap.size w wr)) (fun _ _ i _ => 3 - (intOf i).toNat)
  case atStart => exact ⟨0, Nat.zero_le _, rfl, HO1, HB1⟩
  case round =>
    clear HO1 HB1
    obtain ⟨k, hk, rfl, HO, HB⟩ := hrel
    have hbs := HB.out.size
    obtain rfl | rfl | rfl | rfl : k = 0 ∨ k = 1 ∨ k = 2 ∨ k = 3 := by omega
    · have HO := hid (show wr.ownsRow w.heap.size 5 1 _ 3 (kbs [y0, y1, y2]) from HO.out)
      have HOA := hid (own_below HO.out ((Below.refl _ _).alloc (Nat.le_refl _) (.cells #[.int .u8 y3, .int .u8 y4, .int .u8 y5] 89)))
      have HRA := hid (rd_three wr y3 y4 y5 89)
      have HSZ := hid (show w.heap.size ≤ (wr.alloc (.cells #[.int .u8 y3, .int .u8 y4, .int .u8 y5] 89)).heap.size by rw [World.size_alloc]; omega)
      go_wp2_with (at_builtin; refine wpList_append_rd rfl (.tmp 19) (.tmp 20) 138 rfl w.heap.size 5 (.int .u8 0) 1 1 Try.underlying138 Try.info_u8 rfl (by decide) _ _ _ rfl HOA.out _ 3 3 (kbs [y3, y4, y5]) rfl HRA.out rfl (kbs_one _) (by omega) (by decide) HSZ.out ?_)
      intro v2 w2 hown2 hgrow2 _
      have HO2 := hid (show w2.ownsRow w.heap.size 5 1 v2 6 (kbs [y0, y1, y2, y3, y4, y5]) from own_cast hown2 rfl rfl)
      have HB2 := hid ((HB.out.alloc hbs (.cells #[.int .u8 y3, .int .u8 y4, .int .u8 y5] 89)).grown hgrow2 (by simp; omega) (fun b hb => (HO.out.lt b hb).1))
      clear hown2 hgrow2
      go_wp2_with fail
      go_roundw
      case rel => exact ⟨1, by omega, by first | rfl | go_num, HO2, HB2⟩
      case measure => simp [intOf]
    · have HO := hid (show wr.ownsRow w.heap.size 5 1 _ 6 (kbs [y0, y1, y2, y3, y4, y5]) from HO.out)
      have HOA := hid (own_below HO.out ((Below.refl _ _).alloc (Nat.le_refl _) (.cells #[.int .u8 y6, .int .u8 y7, .int .u8 y8] 89)))
      have HRA := hid (rd_three wr y6 y7 y8 89)
      have HSZ := hid (show w.heap.size ≤ (wr.alloc (.cells #[.int .u8 y6, .int .u8 y7, .int .u8 y8] 89)).heap.size by rw [World.size_alloc]; omega)
      go_wp2_with (at_builtin; refine wpList_append_rd rfl (.tmp 19) (.tmp 20) 138 rfl w.heap.size 5 (.int .u8 0) 1 1 Try.underlying138 Try.info_u8 rfl (by decide) _ _ _ rfl HOA.out _ 3 3 (kbs [y6, y7, y8]) rfl HRA.out rfl (kbs_one _) (by omega) (by decide) HSZ.out ?_)
      intro v2 w2 hown2 hgrow2 _
      have HO2 := hid (show w2.ownsRow w.heap.size 5 1 v2 9 (kbs [y0, y1, y2, y3, y4, y5, y6, y7, y8]) from own_cast hown2 rfl rfl)
      have HB2 := hid ((HB.out.alloc hbs (.cells #[.int .u8 y6, .int .u8 y7, .int .u8 y8] 89)).grown hgrow2 (by simp; omega) (fun b hb => (HO.out.lt b hb).1))
      clear hown2 hgrow2
      go_wp2_with fail
      go_roundw
      case rel => exact ⟨2, by omega, by first | rfl | go_num, HO2, HB2⟩
      case measure => simp [intOf]
    · have HO := hid (show wr.ownsRow w.heap.size 5 1 _ 9 (kbs [y0, y1, y2, y3, y4, y5, y6, y7, y8]) from HO.out)
      have HOA := hid (own_below HO.out ((Below.refl _ _).alloc (Nat.le_refl _) (.cells #[.int .u8 y9, .int .u8 y10, .int .u8 y11] 89)))
      have HRA := hid (rd_three wr y9 y10 y11 89)
      have HSZ := hid (show w.heap.size ≤ (wr.alloc (.cells #[.int .u8 y9, .int .u8 y10, .int .u8 y11] 89)).heap.size by rw [World.size_alloc]; omega)
      go_wp2_with (at_builtin; refine wpList_append_rd rfl (.tmp 19) (.tmp 20) 138 rfl w.heap.size 5 (.int .u8 0) 1 1 Try.underlying138 Try.info_u8 rfl (by decide) _ _ _ rfl HOA.out _ 3 3 (kbs [y9, y10, y11]) rfl HRA.out rfl (kbs_one _) (by omega) (by decide) HSZ.out ?_)
      intro v2 w2 hown2 hgrow2 _
      have HO2 := hid (show w2.ownsRow w.heap.size 5 1 v2 12 (kbs [y0, y1, y2, y3, y4, y5, y6, y7, y8, y9, y10, y11]) from own_cast hown2 rfl rfl)
      have HB2 := hid ((HB.out.alloc hbs (.cells #[.int .u8 y9, .int .u8 y10, .int .u8 y11] 89)).grown hgrow2 (by simp; omega) (fun b hb => (HO.out.lt b hb).1))
      clear hown2 hgrow2
      go_wp2_with fail
      go_roundw
      case rel => exact ⟨3, by omega, by first | rfl | go_num, HO2, HB2⟩
      case measure => simp [intOf]
    · have HO := hid (show wr.ownsRow w.heap.size 5 1 _ 12 (kbs [y0, y1, y2, y3, y4, y5, y6, y7, y8, y9, y10, y11]) from HO.out)
      have HR2 := hid (rd_cells (w := wr) (g := g) (o := 13) (xs := [y12, y13, y14]) (by omega) (fun j x hj => by
        rw [show 13 + j = 1 + (12 + j) by omega]
        refine HC.out _ HB.out (12 + j) x ?_
        match j, hj with
        | 0, hj => exact hj
        | 1, hj => exact hj
        | 2, hj => exact hj
        | k + 3, hj => simp at hj))
      go_wp2_with (at_builtin; refine wpList_append_rd rfl (.tmp 23) (.tmp 27) 138 rfl w.heap.size 5 (.int .u8 0) 1 1 Try.underlying138 Try.info_u8 rfl (by decide) _ _ _ rfl HO.out _ 3 3 (kbs [y12, y13, y14]) rfl HR2.out rfl (kbs_one _) (by omega) (by decide) hbs ?_)
      intro v2 w2 hown2 hgrow2 _
      have HB2 := hid (HB.out.grown hgrow2 hbs (fun b hb => (HO.out.lt b hb).1))
      obtain ⟨a9, c9, rfl, _⟩ := own_shape hown2
      obtain ⟨g9, rfl, _, _⟩ := own_some hown2 (by decide)
      have HCV := conv_own (xs := [y0, y1, y2, y3, y4, y5, y6, y7, y8, y9, y10, y11, y12, y13, y14]) (show w2.ownsRow w.heap.size 5 1 (.slice (some ⟨g9, 0, none⟩) 15 c9) 15 (kbs [y0, y1, y2, y3, y4, y5, y6, y7, y8, y9, y10, y11, y12, y13, y14]) from own_cast hown2 rfl rfl)
      have hcv : (convert 138 9 (.slice (some ⟨g9, 0, none⟩) 15 c9)).run Try.prog w2 = .ok (.string (strOfNums [y0, y1, y2, y3, y4, y5, y6, y7, y8, y9, y10, y11, y12, y13, y14])) w2 := HCV
      clear hown2 hgrow2 HCV
      go_wp2_with fail
      go_ret
      exact ⟨rfl, HB2.out⟩
theorem seqKey_c (w : World) (g : Nat) (p : Prg) (s : St) (h : VAt w g p s) (hv : Shape p) :
    Calls Try.prog 121 #[.pointer (some ⟨g, 0, none⟩)] w fun e w' => e = .returned (.string (strOfNums (keyV s))) ∧ Below w.heap.size w w' := by
  have HT := hid (text_c w g p s h hv)
  clear h hv
  go_enter Try.func121, Try.ntmps121
  go_wp2_with fail
  refine HT.out.mono ?_
  rintro e w1 ⟨rfl, hb1⟩
  have HB := hid hb1
  clear hb1
  go_wp2
  go_ret
  exact ⟨rfl, HB.out⟩
end Go.Proofs.Ytbncmeggnhggkaa
