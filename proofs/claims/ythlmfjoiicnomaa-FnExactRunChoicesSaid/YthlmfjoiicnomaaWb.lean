/-
  PROVED HERE: what (view).moved and (view).joined do. CONDITIONS: as each theorem states.
-/
import Derived.Test.YthlmfjoiicnomaaWa
namespace Go.Proofs.Ythlmfjoiicnomaa
open Go.RowKit
set_option linter.unusedVariables false
set_option linter.unusedSimpArgs false

theorem heap_two (w : World) (o1 o2 : Obj) : ((w.alloc o1).alloc o2).heap[w.heap.size + 1]? = some o2 := by
  have := heap_alloc_new (w.alloc o1) o2
  rwa [World.size_alloc] at this
theorem below_two (w : World) (o1 o2 : Obj) : Below w.heap.size w ((w.alloc o1).alloc o2) := ((Below.refl _ _).alloc (Nat.le_refl _) _).alloc (by simp) _
set_option maxRecDepth 100000 in
set_option maxHeartbeats 1600000 in
theorem moved0_c (w : World) (x0 x1 x2 : Int) (k : Nat) (hk : k ≤ 200) (hb : 0 ≤ x0 ∧ x0 ≤ 100) :
    Calls Try.prog 143 #[.agg #[.int .u8 x0, .int .u8 x1, .int .u8 x2], .int .i64 0, .int .u8 k] w fun e w' => e = .returned (.agg (b8s (bump 0 k [x0, x1, x2])).toArray) ∧ Below w.heap.size w w' := by
  by_cases hge : (k : Int) ≤ x0
  · have HB := hid (show bump 0 k [x0, x1, x2] = [x0 + 1, x1, x2] by unfold bump; rw [if_pos (by exact hge)]; rfl)
    rw [HB.out]
    have hw : IntKind.u8.wrap (x0 + 1) = x0 + 1 := IntWalk.u8_in _ (by omega)
    have d0 : decide ((k : Int) ≤ x0) = true := decide_eq_true hge
    go_enter Try.func143, Try.ntmps143
    go_wp2_with fail
    refine bodyPost_ret (results_cell_row rfl _ _ (w.heap.size + 1) 109 #[.int .u8 (x0 + 1), .int .u8 (x1), .int .u8 (x2)] (0, 0) _ rfl (heap_two _ _ _) Try.underlying109 rfl (by kernel_rfl)) rfl ⟨rfl, ?_⟩
    exact below_two _ _ _
  · have HB := hid (show bump 0 k [x0, x1, x2] = [x0, x1, x2] by unfold bump; rw [if_neg (by exact hge)])
    rw [HB.out]
    have d0 : decide ((k : Int) ≤ x0) = false := decide_eq_false hge
    go_enter Try.func143, Try.ntmps143
    go_wp2_with fail
    refine bodyPost_ret (results_cell_row rfl _ _ (w.heap.size + 1) 109 #[.int .u8 (x0), .int .u8 (x1), .int .u8 (x2)] (0, 0) _ rfl (heap_two _ _ _) Try.underlying109 rfl (by kernel_rfl)) rfl ⟨rfl, ?_⟩
    exact below_two _ _ _
set_option maxRecDepth 100000 in
set_option maxHeartbeats 1600000 in
theorem moved1_c (w : World) (x0 x1 x2 : Int) (k : Nat) (hk : k ≤ 200) (hb : 0 ≤ x1 ∧ x1 ≤ 100) :
    Calls Try.prog 143 #[.agg #[.int .u8 x0, .int .u8 x1, .int .u8 x2], .int .i64 1, .int .u8 k] w fun e w' => e = .returned (.agg (b8s (bump 1 k [x0, x1, x2])).toArray) ∧ Below w.heap.size w w' := by
  by_cases hge : (k : Int) ≤ x1
  · have HB := hid (show bump 1 k [x0, x1, x2] = [x0, x1 + 1, x2] by unfold bump; rw [if_pos (by exact hge)]; rfl)
    rw [HB.out]
    have hw : IntKind.u8.wrap (x1 + 1) = x1 + 1 := IntWalk.u8_in _ (by omega)
    have d0 : decide ((k : Int) ≤ x1) = true := decide_eq_true hge
    go_enter Try.func143, Try.ntmps143
    go_wp2_with fail
    refine bodyPost_ret (results_cell_row rfl _ _ (w.heap.size + 1) 109 #[.int .u8 (x0), .int .u8 (x1 + 1), .int .u8 (x2)] (0, 0) _ rfl (heap_two _ _ _) Try.underlying109 rfl (by kernel_rfl)) rfl ⟨rfl, ?_⟩
    exact below_two _ _ _
  · have HB := hid (show bump 1 k [x0, x1, x2] = [x0, x1, x2] by unfold bump; rw [if_neg (by exact hge)])
    rw [HB.out]
    have d0 : decide ((k : Int) ≤ x1) = false := decide_eq_false hge
    go_enter Try.func143, Try.ntmps143
    go_wp2_with fail
    refine bodyPost_ret (results_cell_row rfl _ _ (w.heap.size + 1) 109 #[.int .u8 (x0), .int .u8 (x1), .int .u8 (x2)] (0, 0) _ rfl (heap_two _ _ _) Try.underlying109 rfl (by kernel_rfl)) rfl ⟨rfl, ?_⟩
    exact below_two _ _ _
set_option maxRecDepth 100000 in
set_option maxHeartbeats 1600000 in
theorem moved2_c (w : World) (x0 x1 x2 : Int) (k : Nat) (hk : k ≤ 200) (hb : 0 ≤ x2 ∧ x2 ≤ 100) :
    Calls Try.prog 143 #[.agg #[.int .u8 x0, .int .u8 x1, .int .u8 x2], .int .i64 2, .int .u8 k] w fun e w' => e = .returned (.agg (b8s (bump 2 k [x0, x1, x2])).toArray) ∧ Below w.heap.size w w' := by
  by_cases hge : (k : Int) ≤ x2
  · have HB := hid (show bump 2 k [x0, x1, x2] = [x0, x1, x2 + 1] by unfold bump; rw [if_pos (by exact hge)]; rfl)
    rw [HB.out]
    have hw : IntKind.u8.wrap (x2 + 1) = x2 + 1 := IntWalk.u8_in _ (by omega)
    have d0 : decide ((k : Int) ≤ x2) = true := decide_eq_true hge
    go_enter Try.func143, Try.ntmps143
    go_wp2_with fail
    refine bodyPost_ret (results_cell_row rfl _ _ (w.heap.size + 1) 109 #[.int .u8 (x0), .int .u8 (x1), .int .u8 (x2 + 1)] (0, 0) _ rfl (heap_two _ _ _) Try.underlying109 rfl (by kernel_rfl)) rfl ⟨rfl, ?_⟩
    exact below_two _ _ _
  · have HB := hid (show bump 2 k [x0, x1, x2] = [x0, x1, x2] by unfold bump; rw [if_neg (by exact hge)])
    rw [HB.out]
    have d0 : decide ((k : Int) ≤ x2) = false := decide_eq_false hge
    go_enter Try.func143, Try.ntmps143
    go_wp2_with fail
    refine bodyPost_ret (results_cell_row rfl _ _ (w.heap.size + 1) 109 #[.int .u8 (x0), .int .u8 (x1), .int .u8 (x2)] (0, 0) _ rfl (heap_two _ _ _) Try.underlying109 rfl (by kernel_rfl)) rfl ⟨rfl, ?_⟩
    exact below_two _ _ _
theorem moved_c (w : World) (v : List Int) (loc k : Nat) (hl : loc < 3) (hv : v.length = 3) (hk : k ≤ 200) (hb : ∀ x ∈ v, 0 ≤ x ∧ x ≤ 100) :
    Calls Try.prog 143 #[.agg (b8s v).toArray, .int .i64 loc, .int .u8 k] w fun e w' => e = .returned (.agg (b8s (bump loc k v)).toArray) ∧ Below w.heap.size w w' := by
  obtain ⟨x0, x1, x2, rfl⟩ := len3 hv
  match loc, hl with
  | 0, _ => exact moved0_c w x0 x1 x2 k hk (hb x0 (by simp))
  | 1, _ => exact moved1_c w x0 x1 x2 k hk (hb x1 (by simp))
  | 2, _ => exact moved2_c w x0 x1 x2 k hk (hb x2 (by simp))
def jv (k j : Nat) (x y : Int) : Int := if j < k then max x y else x
set_option maxRecDepth 100000 in
set_option maxHeartbeats 1600000 in
theorem joined3_c (w : World) (x0 x1 x2 y0 y1 y2 : Int) (hx : ∀ x ∈ [x0, x1, x2], 0 ≤ x ∧ x ≤ 100) (hy : ∀ x ∈ [y0, y1, y2], 0 ≤ x ∧ x ≤ 100) :
    Calls Try.prog 137 #[.agg #[.int .u8 x0, .int .u8 x1, .int .u8 x2], .agg #[.int .u8 y0, .int .u8 y1, .int .u8 y2]] w fun e w' => e = .returned (.agg (b8s (join5 [x0, x1, x2] [y0, y1, y2])).toArray) ∧ Below w.heap.size w w' := by
  have HJ := hid (show join5 [x0, x1, x2] [y0, y1, y2] = [max x0 y0, max x1 y1, max x2 y2] from rfl)
  rw [HJ.out]
  go_enter Try.func137, Try.ntmps137
  go_wp2_with fail
  obtain ⟨B, hB⟩ : ∃ B, B = w.heap.size := ⟨_, rfl⟩
  obtain ⟨w3, hw3⟩ : ∃ w3, w3 = ((w.alloc (.cells #[.int .u8 x0, .int .u8 x1, .int .u8 x2] 109)).alloc (.cells #[.int .u8 y0, .int .u8 y1, .int .u8 y2] 109)).alloc (.cells #[.int .u8 0, .int .u8 0, .int .u8 0] 109) := ⟨_, rfl⟩
  have HX := hid (show w3.heap[B]? = some (.cells #[.int .u8 x0, .int .u8 x1, .int .u8 x2] 109 (0, 0)) from by rw [hw3, hB, heap_alloc_old _ _ (by simp; omega), heap_alloc_old _ _ (by simp)]; exact heap_alloc_new w _)
  have HY := hid (show w3.heap[B + 1]? = some (.cells #[.int .u8 y0, .int .u8 y1, .int .u8 y2] 109 (0, 0)) from by rw [hw3, hB, heap_alloc_old _ _ (by simp)]; exact heap_two w _ _)
  have HZ := hid (show w3.heap[B + 1 + 1]? = some (.cells #[.int .u8 0, .int .u8 0, .int .u8 0] 109 (0, 0)) from by
    rw [hw3, hB]
    have := heap_alloc_new ((w.alloc (.cells #[.int .u8 x0, .int .u8 x1, .int .u8 x2] 109)).alloc (.cells #[.int .u8 y0, .int .u8 y1, .int .u8 y2] 109)) (.cells #[.int .u8 0, .int .u8 0, .int .u8 0] 109)
    rwa [World.size_alloc, World.size_alloc] at this)
  have HB := hid (show Below w.heap.size w w3 by rw [hw3]; exact (below_two w _ _).alloc (by simp; omega) _)
  rw [← hB, ← hw3]
  rw [← hB] at HB
  have HBW := hid hB
  clear hw3 hB
  go_loopw [5, 6] (fun _ i wx => ∃ k : Nat, k ≤ 3 ∧ i = .int .i64 k ∧ Hid (wx.heap[B]? = some (.cells #[.int .u8 (jv k 0 x0 y0), .int .u8 (jv k 1 x1 y1), .int .u8 (jv k 2 x2 y2)] 109 (0, 0))) ∧ Hid (wx.heap[B + 1]? = some (.cells #[.int .u8 y0, .int .u8 y1, .int .u8 y2] 109 (0, 0))) ∧ Hid (wx.heap[B + 1 + 1]? = some (.cells #[.int .u8 0, .int .u8 0, .int .u8 0] 109 (0, 0))) ∧ Hid (Below B w wx)) (fun _ i _ => 3 - (intOf i).toNat)
  case atStart => exact ⟨0, by omega, rfl, HX, HY, HZ, HB⟩
  case round =>
    clear HX HY HZ HB
    obtain ⟨k, hk, rfl, HX, HY, HZ, HB⟩ := hrel
    have hk4 : k = 0 ∨ k = 1 ∨ k = 2 ∨ k = 3 := by omega
    rcases hk4 with rfl | rfl | rfl | rfl
    · have cx := cell_of_row wr B 0 _ _ _ HX.out
      have cy := cell_of_row wr (B + 1) 0 _ _ _ HY.out
      have fx := frozen_of_row wr B 0 _ _ HX.out
      have hyx : (if jv 0 0 x0 y0 < y0 then y0 else jv 0 0 x0 y0) = jv 1 0 x0 y0 := by simp only [jv]; simp; omega
      go_wp2_with fail
      refine wp_region_mix (by kernel_rfl) (by kernel_rfl) ?_
      go_wp2_with (first | (with_reducible refine wpMix_nil ?_) | (with_reducible refine wpMix_rd rfl rfl (fun K hK => ?_); go_simp; (try go_bits); refine hK _ ?_; clear hK K) | (with_reducible refine wpMix_act (o := ⟨_, .store _ _ _, _, _, _, _⟩) rfl rfl (fun K hK => ?_)))
      refine wpMix_act rfl rfl (fun K hK => ?_)
      go_simp
      refine hK _ _ ?_
      clear hK K
      go_wp2_with (first | (with_reducible refine wpMix_nil ?_) | (with_reducible refine wpMix_rd rfl rfl (fun K hK => ?_); go_simp; (try go_bits); refine hK _ ?_; clear hK K) | (with_reducible refine wpMix_act (o := ⟨_, .store _ _ _, _, _, _, _⟩) rfl rfl (fun K hK => ?_)))
      have HX2 := hid (show (wr.drew.setCell ⟨B, 0, none⟩ (.int .u8 (jv 1 0 x0 y0))).heap[B]? = some (.cells #[.int .u8 (jv 1 0 x0 y0), .int .u8 (jv 1 1 x1 y1), .int .u8 (jv 1 2 x2 y2)] 109 (0, 0)) from (heap_setCell_same wr.drew B 0 _ _ _ HX.out).trans rfl)
      have hkk := Keeps.setCell wr.drew ⟨B, 0, none⟩ (.int .u8 (jv 1 0 x0 y0))
      have hy1 : B + 1 < wr.heap.size := (Array.getElem?_eq_some_iff.1 HY.out).1
      have hz1 : B + 1 + 1 < wr.heap.size := (Array.getElem?_eq_some_iff.1 HZ.out).1
      have HY2 := hid ((hkk.block (B + 1) hy1 (fun e => by have e : B + 1 = B := e; omega)).trans HY.out)
      have HZ2 := hid ((hkk.block (B + 1 + 1) hz1 (fun e => by have e : B + 1 + 1 = B := e; omega)).trans HZ.out)
      have HB2 := hid ((below_drewN 1 HB.out).setCell (p := ⟨B, 0, none⟩) (Nat.le_refl _) (.int .u8 (jv 1 0 x0 y0)))
      clear cx cy fx hkk
      go_roundw
      case rel => exact ⟨1, by omega, by go_num, HX2, HY2, HZ2, HB2⟩
      case measure => simp [intOf]
    · have cx := cell_of_row wr B 1 _ _ _ HX.out
      have cy := cell_of_row wr (B + 1) 1 _ _ _ HY.out
      have fx := frozen_of_row wr B 1 _ _ HX.out
      have hyx : (if jv 1 1 x1 y1 < y1 then y1 else jv 1 1 x1 y1) = jv 2 1 x1 y1 := by simp only [jv]; simp; omega
      go_wp2_with fail
      refine wp_region_mix (by kernel_rfl) (by kernel_rfl) ?_
      go_wp2_with (first | (with_reducible refine wpMix_nil ?_) | (with_reducible refine wpMix_rd rfl rfl (fun K hK => ?_); go_simp; (try go_bits); refine hK _ ?_; clear hK K) | (with_reducible refine wpMix_act (o := ⟨_, .store _ _ _, _, _, _, _⟩) rfl rfl (fun K hK => ?_)))
      refine wpMix_act rfl rfl (fun K hK => ?_)
      go_simp
      refine hK _ _ ?_
      clear hK K
      go_wp2_with (first | (with_reducible refine wpMix_nil ?_) | (with_reducible refine wpMix_rd rfl rfl (fun K hK => ?_); go_simp; (try go_bits); refine hK _ ?_; clear hK K) | (with_reducible refine wpMix_act (o := ⟨_, .store _ _ _, _, _, _, _⟩) rfl rfl (fun K hK => ?_)))
      have HX2 := hid (show (wr.drew.setCell ⟨B, 1, none⟩ (.int .u8 (jv 2 1 x1 y1))).heap[B]? = some (.cells #[.int .u8 (jv 2 0 x0 y0), .int .u8 (jv 2 1 x1 y1), .int .u8 (jv 2 2 x2 y2)] 109 (0, 0)) from (heap_setCell_same wr.drew B 1 _ _ _ HX.out).trans rfl)
      have hkk := Keeps.setCell wr.drew ⟨B, 1, none⟩ (.int .u8 (jv 2 1 x1 y1))
      have hy1 : B + 1 < wr.heap.size := (Array.getElem?_eq_some_iff.1 HY.out).1
      have hz1 : B + 1 + 1 < wr.heap.size := (Array.getElem?_eq_some_iff.1 HZ.out).1
      have HY2 := hid ((hkk.block (B + 1) hy1 (fun e => by have e : B + 1 = B := e; omega)).trans HY.out)
      have HZ2 := hid ((hkk.block (B + 1 + 1) hz1 (fun e => by have e : B + 1 + 1 = B := e; omega)).trans HZ.out)
      have HB2 := hid ((below_drewN 1 HB.out).setCell (p := ⟨B, 1, none⟩) (Nat.le_refl _) (.int .u8 (jv 2 1 x1 y1)))
      clear cx cy fx hkk
      go_roundw
      case rel => exact ⟨2, by omega, by go_num, HX2, HY2, HZ2, HB2⟩
      case measure => simp [intOf]
    · have cx := cell_of_row wr B 2 _ _ _ HX.out
      have cy := cell_of_row wr (B + 1) 2 _ _ _ HY.out
      have fx := frozen_of_row wr B 2 _ _ HX.out
      have hyx : (if jv 2 2 x2 y2 < y2 then y2 else jv 2 2 x2 y2) = jv 3 2 x2 y2 := by simp only [jv]; simp; omega
      go_wp2_with fail
      refine wp_region_mix (by kernel_rfl) (by kernel_rfl) ?_
      go_wp2_with (first | (with_reducible refine wpMix_nil ?_) | (with_reducible refine wpMix_rd rfl rfl (fun K hK => ?_); go_simp; (try go_bits); refine hK _ ?_; clear hK K) | (with_reducible refine wpMix_act (o := ⟨_, .store _ _ _, _, _, _, _⟩) rfl rfl (fun K hK => ?_)))
      refine wpMix_act rfl rfl (fun K hK => ?_)
      go_simp
      refine hK _ _ ?_
      clear hK K
      go_wp2_with (first | (with_reducible refine wpMix_nil ?_) | (with_reducible refine wpMix_rd rfl rfl (fun K hK => ?_); go_simp; (try go_bits); refine hK _ ?_; clear hK K) | (with_reducible refine wpMix_act (o := ⟨_, .store _ _ _, _, _, _, _⟩) rfl rfl (fun K hK => ?_)))
      have HX2 := hid (show (wr.drew.setCell ⟨B, 2, none⟩ (.int .u8 (jv 3 2 x2 y2))).heap[B]? = some (.cells #[.int .u8 (jv 3 0 x0 y0), .int .u8 (jv 3 1 x1 y1), .int .u8 (jv 3 2 x2 y2)] 109 (0, 0)) from (heap_setCell_same wr.drew B 2 _ _ _ HX.out).trans rfl)
      have hkk := Keeps.setCell wr.drew ⟨B, 2, none⟩ (.int .u8 (jv 3 2 x2 y2))
      have hy1 : B + 1 < wr.heap.size := (Array.getElem?_eq_some_iff.1 HY.out).1
      have hz1 : B + 1 + 1 < wr.heap.size := (Array.getElem?_eq_some_iff.1 HZ.out).1
      have HY2 := hid ((hkk.block (B + 1) hy1 (fun e => by have e : B + 1 = B := e; omega)).trans HY.out)
      have HZ2 := hid ((hkk.block (B + 1 + 1) hz1 (fun e => by have e : B + 1 + 1 = B := e; omega)).trans HZ.out)
      have HB2 := hid ((below_drewN 1 HB.out).setCell (p := ⟨B, 2, none⟩) (Nat.le_refl _) (.int .u8 (jv 3 2 x2 y2)))
      clear cx cy fx hkk
      go_roundw
      case rel => exact ⟨3, by omega, by go_num, HX2, HY2, HZ2, HB2⟩
      case measure => simp [intOf]
    · have cx0 := cell_of_row wr B 0 _ _ _ HX.out
      have cx1 := cell_of_row wr B 1 _ _ _ HX.out
      have cx2 := cell_of_row wr B 2 _ _ _ HX.out
      have cz0 := cell_of_row wr (B + 1 + 1) 0 _ _ _ HZ.out
      have cz1 := cell_of_row wr (B + 1 + 1) 1 _ _ _ HZ.out
      have cz2 := cell_of_row wr (B + 1 + 1) 2 _ _ _ HZ.out
      have fz0 := frozen_of_row wr (B + 1 + 1) 0 _ _ HZ.out
      have fz1 := frozen_of_row wr (B + 1 + 1) 1 _ _ HZ.out
      have fz2 := frozen_of_row wr (B + 1 + 1) 2 _ _ HZ.out
      go_wp2_with fail
      have h0 := heap_setCell_same wr (B + 1 + 1) 0 _ _ (.int .u8 (jv 3 0 x0 y0)) HZ.out
      have h1 := heap_setCell_same _ (B + 1 + 1) 1 _ _ (.int .u8 (jv 3 1 x1 y1)) h0
      have h2 := heap_setCell_same _ (B + 1 + 1) 2 _ _ (.int .u8 (jv 3 2 x2 y2)) h1
      have hbs := HB.out.size
      refine bodyPost_ret (results_cell_row rfl _ _ (B + 1 + 1) 109 #[.int .u8 (jv 3 0 x0 y0), .int .u8 (jv 3 1 x1 y1), .int .u8 (jv 3 2 x2 y2)] (0, 0) _ rfl h2 Try.underlying109 rfl (by kernel_rfl)) rfl ⟨rfl, ?_⟩
      rw [← HBW.out]
      exact ((HB.out.setCell (by show B ≤ B + 1 + 1; omega) _).setCell (by show B ≤ B + 1 + 1; omega) _).setCell (by show B ≤ B + 1 + 1; omega) _
theorem joined_c (w : World) (x y : List Int) (hlx : x.length = 3) (hly : y.length = 3) (hx : ∀ v ∈ x, 0 ≤ v ∧ v ≤ 100) (hy : ∀ v ∈ y, 0 ≤ v ∧ v ≤ 100) :
    Calls Try.prog 137 #[.agg (b8s x).toArray, .agg (b8s y).toArray] w fun e w' => e = .returned (.agg (b8s (join5 x y)).toArray) ∧ Below w.heap.size w w' := by
  obtain ⟨x0, x1, x2, rfl⟩ := len3 hlx
  obtain ⟨y0, y1, y2, rfl⟩ := len3 hly
  exact joined3_c w x0 x1 x2 y0 y1 y2 hx hy
end Go.Proofs.Ythlmfjoiicnomaa
