/-
  PROVED HERE: what strconv.Itoa and spec.l17Dec give at numbers up to 15. CONDITIONS: as each theorem states.
-/
import Derived.Test.YtmeoclkngjboiaaDoorLib
import Derived.Laws.BytesArg
import Derived.Shelf.Strconv.Itoa1
namespace Go.Proofs.YtmeoclkngjboiaaDoor
open Go.RowKit Go.Shelf
set_option linter.unusedVariables false
set_option linter.unusedSimpArgs false

def Tryd.lays283_ren : Go.Shelf.Ren := ⟨fun | 283 => 102 | n => n, fun | 3 => 3 | 4 => 4 | 9 => 9 | n => n, fun | n => n⟩
theorem Tryd.lays283 : Go.Proofs.Lays.n283 Tryd.prog Tryd.lays283_ren := {
  mixed := by kernel_rfl
  f283 := Tryd.func102.trans (congrArg some (by kernel_rfl))
  t3 := Tryd.underlying3
  a3 := Tryd.isAgg3
  z3 := Tryd.sizeOf3
  v3 := Tryd.zeroValue3
  t4 := Tryd.underlying4
  a4 := Tryd.isAgg4
  z4 := Tryd.sizeOf4
  v4 := Tryd.zeroValue4
  t9 := Tryd.underlying9
  a9 := Tryd.isAgg9
  z9 := Tryd.sizeOf9
  v9 := Tryd.zeroValue9 }
theorem small_c (w : World) (n : Nat) (h : n ≤ 15) : Calls Tryd.prog 102 #[.int .i64 n] w fun e w' => e = .returned (.string ⟨(Lib.decDigits n).toArray⟩) ∧ w' = w := Any.internal_strconv_small Tryd.lays283 n (by omega) w
theorem formatInt_c (w : World) (n : Nat) (h : n ≤ 15) : Calls Tryd.prog 95 #[.int .i64 n, .int .i64 10] w fun e w' => e = .returned (.string ⟨(Lib.decDigits n).toArray⟩) ∧ w' = w := by
  have C := hid (fun w => small_c w n h)
  obtain ⟨S, hS⟩ : ∃ S : ByteArray, S = ⟨(Lib.decDigits n).toArray⟩ := ⟨_, rfl⟩
  rw [← hS] at C ⊢
  clear hS
  have h0 : (0 : Int) ≤ n := by omega
  have h1 : (n : Int) < 100 := by omega
  go_enter Tryd.func95, Tryd.ntmps95
  go_wp2_with fail
  refine (C.out _).mono ?_
  rintro e w1 ⟨rfl, rfl⟩
  go_wp2
  go_ret
  exact ⟨rfl, rfl⟩
theorem itoaIn_c (w : World) (n : Nat) (h : n ≤ 15) : Calls Tryd.prog 78 #[.int .i64 n] w fun e w' => e = .returned (.string ⟨(Lib.decDigits n).toArray⟩) ∧ w' = w := by
  have C := hid (fun w => formatInt_c w n h)
  obtain ⟨S, hS⟩ : ∃ S : ByteArray, S = ⟨(Lib.decDigits n).toArray⟩ := ⟨_, rfl⟩
  rw [← hS] at C ⊢
  clear hS
  go_enter Tryd.func78, Tryd.ntmps78
  go_wp2_with fail
  refine (C.out _).mono ?_
  rintro e w1 ⟨rfl, rfl⟩
  go_wp2
  go_ret
  exact ⟨rfl, rfl⟩
theorem itoa_c (w : World) (n : Nat) (h : n ≤ 15) : Calls Tryd.prog 53 #[.int .i64 n] w fun e w' => e = .returned (.string ⟨(Lib.decDigits n).toArray⟩) ∧ w' = w := by
  have C := hid (fun w => itoaIn_c w n h)
  obtain ⟨S, hS⟩ : ∃ S : ByteArray, S = ⟨(Lib.decDigits n).toArray⟩ := ⟨_, rfl⟩
  rw [← hS] at C ⊢
  clear hS
  go_enter Tryd.func53, Tryd.ntmps53
  go_wp2_with fail
  refine (C.out _).mono ?_
  rintro e w1 ⟨rfl, rfl⟩
  go_wp2
  go_ret
  exact ⟨rfl, rfl⟩

def one (k : Int) : ByteArray := ⟨#[UInt8.ofNat k.toNat]⟩
theorem strOne (w : World) (g : Nat) (hg : g = w.heap.size) (k : Int) : (convert 28 9 (.slice (some ⟨g, 0, none⟩) 1 1)).run Tryd.prog (w.alloc (.cells #[.int .u8 k] 5)) = .ok (.string (one k)) (w.alloc (.cells #[.int .u8 k] 5)) := by
  subst hg
  exact run_convert_bytes_arg _ 28 5 Tryd.underlying28 Tryd.underlying5 w.heap.size 0 1 1 [k] rfl (fun i hi => by
    obtain rfl : i = 0 := by omega
    simp) 9 Tryd.underlying9

set_option maxRecDepth 100000 in
theorem dec_0 (w : World) : Calls Tryd.prog 50 #[.int .i64 0] w fun e w' => e = .returned (.string ⟨#[48]⟩) ∧ Below w.heap.size w w' := by
  have hcv := strOne w _ rfl
  go_enter Tryd.func50, Tryd.ntmps50
  have hz : (one 48).size ≤ 1 := Nat.le_refl _
  go_wp2
  go_loop [0, 3] (fun v o => v = .int .i64 0 ∧ o = .string ⟨#[]⟩) (fun _ _ => 0)
  case atStart => exact ⟨rfl, rfl⟩
  case round =>
    obtain ⟨rfl, rfl⟩ := hrel
    go_wp2
    go_ret
    exact ⟨ret_str rfl, (Below.refl _ _).alloc (Nat.le_refl _) _⟩
set_option maxRecDepth 100000 in
theorem dec_1 (w : World) : Calls Tryd.prog 50 #[.int .i64 1] w fun e w' => e = .returned (.string ⟨#[49]⟩) ∧ Below w.heap.size w w' := by
  have hcv := strOne w _ rfl
  go_enter Tryd.func50, Tryd.ntmps50
  have hz : (one 49).size ≤ 1 := Nat.le_refl _
  go_wp2
  go_loop [0, 3] (fun v o => v = .int .i64 1 ∧ o = .string ⟨#[]⟩) (fun _ _ => 0)
  case atStart => exact ⟨rfl, rfl⟩
  case round =>
    obtain ⟨rfl, rfl⟩ := hrel
    go_wp2
    go_ret
    exact ⟨ret_str rfl, (Below.refl _ _).alloc (Nat.le_refl _) _⟩
set_option maxRecDepth 100000 in
theorem dec_2 (w : World) : Calls Tryd.prog 50 #[.int .i64 2] w fun e w' => e = .returned (.string ⟨#[50]⟩) ∧ Below w.heap.size w w' := by
  have hcv := strOne w _ rfl
  go_enter Tryd.func50, Tryd.ntmps50
  have hz : (one 50).size ≤ 1 := Nat.le_refl _
  go_wp2
  go_loop [0, 3] (fun v o => v = .int .i64 2 ∧ o = .string ⟨#[]⟩) (fun _ _ => 0)
  case atStart => exact ⟨rfl, rfl⟩
  case round =>
    obtain ⟨rfl, rfl⟩ := hrel
    go_wp2
    go_ret
    exact ⟨ret_str rfl, (Below.refl _ _).alloc (Nat.le_refl _) _⟩
set_option maxRecDepth 100000 in
theorem dec_3 (w : World) : Calls Tryd.prog 50 #[.int .i64 3] w fun e w' => e = .returned (.string ⟨#[51]⟩) ∧ Below w.heap.size w w' := by
  have hcv := strOne w _ rfl
  go_enter Tryd.func50, Tryd.ntmps50
  have hz : (one 51).size ≤ 1 := Nat.le_refl _
  go_wp2
  go_loop [0, 3] (fun v o => v = .int .i64 3 ∧ o = .string ⟨#[]⟩) (fun _ _ => 0)
  case atStart => exact ⟨rfl, rfl⟩
  case round =>
    obtain ⟨rfl, rfl⟩ := hrel
    go_wp2
    go_ret
    exact ⟨ret_str rfl, (Below.refl _ _).alloc (Nat.le_refl _) _⟩
set_option maxRecDepth 100000 in
theorem dec_4 (w : World) : Calls Tryd.prog 50 #[.int .i64 4] w fun e w' => e = .returned (.string ⟨#[52]⟩) ∧ Below w.heap.size w w' := by
  have hcv := strOne w _ rfl
  go_enter Tryd.func50, Tryd.ntmps50
  have hz : (one 52).size ≤ 1 := Nat.le_refl _
  go_wp2
  go_loop [0, 3] (fun v o => v = .int .i64 4 ∧ o = .string ⟨#[]⟩) (fun _ _ => 0)
  case atStart => exact ⟨rfl, rfl⟩
  case round =>
    obtain ⟨rfl, rfl⟩ := hrel
    go_wp2
    go_ret
    exact ⟨ret_str rfl, (Below.refl _ _).alloc (Nat.le_refl _) _⟩
set_option maxRecDepth 100000 in
theorem dec_5 (w : World) : Calls Tryd.prog 50 #[.int .i64 5] w fun e w' => e = .returned (.string ⟨#[53]⟩) ∧ Below w.heap.size w w' := by
  have hcv := strOne w _ rfl
  go_enter Tryd.func50, Tryd.ntmps50
  have hz : (one 53).size ≤ 1 := Nat.le_refl _
  go_wp2
  go_loop [0, 3] (fun v o => v = .int .i64 5 ∧ o = .string ⟨#[]⟩) (fun _ _ => 0)
  case atStart => exact ⟨rfl, rfl⟩
  case round =>
    obtain ⟨rfl, rfl⟩ := hrel
    go_wp2
    go_ret
    exact ⟨ret_str rfl, (Below.refl _ _).alloc (Nat.le_refl _) _⟩
set_option maxRecDepth 100000 in
theorem dec_6 (w : World) : Calls Tryd.prog 50 #[.int .i64 6] w fun e w' => e = .returned (.string ⟨#[54]⟩) ∧ Below w.heap.size w w' := by
  have hcv := strOne w _ rfl
  go_enter Tryd.func50, Tryd.ntmps50
  have hz : (one 54).size ≤ 1 := Nat.le_refl _
  go_wp2
  go_loop [0, 3] (fun v o => v = .int .i64 6 ∧ o = .string ⟨#[]⟩) (fun _ _ => 0)
  case atStart => exact ⟨rfl, rfl⟩
  case round =>
    obtain ⟨rfl, rfl⟩ := hrel
    go_wp2
    go_ret
    exact ⟨ret_str rfl, (Below.refl _ _).alloc (Nat.le_refl _) _⟩
set_option maxRecDepth 100000 in
theorem dec_7 (w : World) : Calls Tryd.prog 50 #[.int .i64 7] w fun e w' => e = .returned (.string ⟨#[55]⟩) ∧ Below w.heap.size w w' := by
  have hcv := strOne w _ rfl
  go_enter Tryd.func50, Tryd.ntmps50
  have hz : (one 55).size ≤ 1 := Nat.le_refl _
  go_wp2
  go_loop [0, 3] (fun v o => v = .int .i64 7 ∧ o = .string ⟨#[]⟩) (fun _ _ => 0)
  case atStart => exact ⟨rfl, rfl⟩
  case round =>
    obtain ⟨rfl, rfl⟩ := hrel
    go_wp2
    go_ret
    exact ⟨ret_str rfl, (Below.refl _ _).alloc (Nat.le_refl _) _⟩
set_option maxRecDepth 100000 in
theorem dec_8 (w : World) : Calls Tryd.prog 50 #[.int .i64 8] w fun e w' => e = .returned (.string ⟨#[56]⟩) ∧ Below w.heap.size w w' := by
  have hcv := strOne w _ rfl
  go_enter Tryd.func50, Tryd.ntmps50
  have hz : (one 56).size ≤ 1 := Nat.le_refl _
  go_wp2
  go_loop [0, 3] (fun v o => v = .int .i64 8 ∧ o = .string ⟨#[]⟩) (fun _ _ => 0)
  case atStart => exact ⟨rfl, rfl⟩
  case round =>
    obtain ⟨rfl, rfl⟩ := hrel
    go_wp2
    go_ret
    exact ⟨ret_str rfl, (Below.refl _ _).alloc (Nat.le_refl _) _⟩
set_option maxRecDepth 100000 in
theorem dec_9 (w : World) : Calls Tryd.prog 50 #[.int .i64 9] w fun e w' => e = .returned (.string ⟨#[57]⟩) ∧ Below w.heap.size w w' := by
  have hcv := strOne w _ rfl
  go_enter Tryd.func50, Tryd.ntmps50
  have hz : (one 57).size ≤ 1 := Nat.le_refl _
  go_wp2
  go_loop [0, 3] (fun v o => v = .int .i64 9 ∧ o = .string ⟨#[]⟩) (fun _ _ => 0)
  case atStart => exact ⟨rfl, rfl⟩
  case round =>
    obtain ⟨rfl, rfl⟩ := hrel
    go_wp2
    go_ret
    exact ⟨ret_str rfl, (Below.refl _ _).alloc (Nat.le_refl _) _⟩
set_option maxRecDepth 100000 in
theorem dec_10 (w : World) : Calls Tryd.prog 50 #[.int .i64 10] w fun e w' => e = .returned (.string ⟨#[49, 48]⟩) ∧ Below w.heap.size w w' := by
  go_enter Tryd.func50, Tryd.ntmps50
  have hz : (one 48).size ≤ 1 := Nat.le_refl _
  have hz1 : (one 49).size ≤ 1 := Nat.le_refl _
  have hcv0 := strOne w _ rfl
  go_wp2
  go_loopw [0, 3] (fun v o wr => (v = .int .i64 10 ∧ o = .string ⟨#[]⟩ ∧ wr = w) ∨ (v = .int .i64 1 ∧ o = .string (one 48) ∧ wr = w.alloc (.cells #[.int .u8 48] 5))) (fun v _ _ => (intOf v).toNat)
  case atStart => exact .inl ⟨rfl, rfl, rfl⟩
  case round =>
    rcases hrel with ⟨rfl, rfl, rfl⟩ | ⟨rfl, rfl, rfl⟩
    · go_wp2
      go_roundw
      case rel => exact .inr ⟨rfl, congrArg Value.string (by decide), trivial⟩
      case measure => decide
    · have hcv := strOne (w.alloc (.cells #[.int .u8 48] 5)) (w.heap.size + 1) (by simp)
      go_wp2
      go_ret
      exact ⟨ret_str rfl, ((Below.refl _ _).alloc (Nat.le_refl _) _).alloc (by simp) _⟩
set_option maxRecDepth 100000 in
theorem dec_11 (w : World) : Calls Tryd.prog 50 #[.int .i64 11] w fun e w' => e = .returned (.string ⟨#[49, 49]⟩) ∧ Below w.heap.size w w' := by
  go_enter Tryd.func50, Tryd.ntmps50
  have hz : (one 49).size ≤ 1 := Nat.le_refl _
  have hz1 : (one 49).size ≤ 1 := Nat.le_refl _
  have hcv0 := strOne w _ rfl
  go_wp2
  go_loopw [0, 3] (fun v o wr => (v = .int .i64 11 ∧ o = .string ⟨#[]⟩ ∧ wr = w) ∨ (v = .int .i64 1 ∧ o = .string (one 49) ∧ wr = w.alloc (.cells #[.int .u8 49] 5))) (fun v _ _ => (intOf v).toNat)
  case atStart => exact .inl ⟨rfl, rfl, rfl⟩
  case round =>
    rcases hrel with ⟨rfl, rfl, rfl⟩ | ⟨rfl, rfl, rfl⟩
    · go_wp2
      go_roundw
      case rel => exact .inr ⟨rfl, congrArg Value.string (by decide), trivial⟩
      case measure => decide
    · have hcv := strOne (w.alloc (.cells #[.int .u8 49] 5)) (w.heap.size + 1) (by simp)
      go_wp2
      go_ret
      exact ⟨ret_str rfl, ((Below.refl _ _).alloc (Nat.le_refl _) _).alloc (by simp) _⟩
set_option maxRecDepth 100000 in
theorem dec_12 (w : World) : Calls Tryd.prog 50 #[.int .i64 12] w fun e w' => e = .returned (.string ⟨#[49, 50]⟩) ∧ Below w.heap.size w w' := by
  go_enter Tryd.func50, Tryd.ntmps50
  have hz : (one 50).size ≤ 1 := Nat.le_refl _
  have hz1 : (one 49).size ≤ 1 := Nat.le_refl _
  have hcv0 := strOne w _ rfl
  go_wp2
  go_loopw [0, 3] (fun v o wr => (v = .int .i64 12 ∧ o = .string ⟨#[]⟩ ∧ wr = w) ∨ (v = .int .i64 1 ∧ o = .string (one 50) ∧ wr = w.alloc (.cells #[.int .u8 50] 5))) (fun v _ _ => (intOf v).toNat)
  case atStart => exact .inl ⟨rfl, rfl, rfl⟩
  case round =>
    rcases hrel with ⟨rfl, rfl, rfl⟩ | ⟨rfl, rfl, rfl⟩
    · go_wp2
      go_roundw
      case rel => exact .inr ⟨rfl, congrArg Value.string (by decide), trivial⟩
      case measure => decide
    · have hcv := strOne (w.alloc (.cells #[.int .u8 50] 5)) (w.heap.size + 1) (by simp)
      go_wp2
      go_ret
      exact ⟨ret_str rfl, ((Below.refl _ _).alloc (Nat.le_refl _) _).alloc (by simp) _⟩
set_option maxRecDepth 100000 in
theorem dec_13 (w : World) : Calls Tryd.prog 50 #[.int .i64 13] w fun e w' => e = .returned (.string ⟨#[49, 51]⟩) ∧ Below w.heap.size w w' := by
  go_enter Tryd.func50, Tryd.ntmps50
  have hz : (one 51).size ≤ 1 := Nat.le_refl _
  have hz1 : (one 49).size ≤ 1 := Nat.le_refl _
  have hcv0 := strOne w _ rfl
  go_wp2
  go_loopw [0, 3] (fun v o wr => (v = .int .i64 13 ∧ o = .string ⟨#[]⟩ ∧ wr = w) ∨ (v = .int .i64 1 ∧ o = .string (one 51) ∧ wr = w.alloc (.cells #[.int .u8 51] 5))) (fun v _ _ => (intOf v).toNat)
  case atStart => exact .inl ⟨rfl, rfl, rfl⟩
  case round =>
    rcases hrel with ⟨rfl, rfl, rfl⟩ | ⟨rfl, rfl, rfl⟩
    · go_wp2
      go_roundw
      case rel => exact .inr ⟨rfl, congrArg Value.string (by decide), trivial⟩
      case measure => decide
    · have hcv := strOne (w.alloc (.cells #[.int .u8 51] 5)) (w.heap.size + 1) (by simp)
      go_wp2
      go_ret
      exact ⟨ret_str rfl, ((Below.refl _ _).alloc (Nat.le_refl _) _).alloc (by simp) _⟩
set_option maxRecDepth 100000 in
theorem dec_14 (w : World) : Calls Tryd.prog 50 #[.int .i64 14] w fun e w' => e = .returned (.string ⟨#[49, 52]⟩) ∧ Below w.heap.size w w' := by
  go_enter Tryd.func50, Tryd.ntmps50
  have hz : (one 52).size ≤ 1 := Nat.le_refl _
  have hz1 : (one 49).size ≤ 1 := Nat.le_refl _
  have hcv0 := strOne w _ rfl
  go_wp2
  go_loopw [0, 3] (fun v o wr => (v = .int .i64 14 ∧ o = .string ⟨#[]⟩ ∧ wr = w) ∨ (v = .int .i64 1 ∧ o = .string (one 52) ∧ wr = w.alloc (.cells #[.int .u8 52] 5))) (fun v _ _ => (intOf v).toNat)
  case atStart => exact .inl ⟨rfl, rfl, rfl⟩
  case round =>
    rcases hrel with ⟨rfl, rfl, rfl⟩ | ⟨rfl, rfl, rfl⟩
    · go_wp2
      go_roundw
      case rel => exact .inr ⟨rfl, congrArg Value.string (by decide), trivial⟩
      case measure => decide
    · have hcv := strOne (w.alloc (.cells #[.int .u8 52] 5)) (w.heap.size + 1) (by simp)
      go_wp2
      go_ret
      exact ⟨ret_str rfl, ((Below.refl _ _).alloc (Nat.le_refl _) _).alloc (by simp) _⟩
set_option maxRecDepth 100000 in
theorem dec_15 (w : World) : Calls Tryd.prog 50 #[.int .i64 15] w fun e w' => e = .returned (.string ⟨#[49, 53]⟩) ∧ Below w.heap.size w w' := by
  go_enter Tryd.func50, Tryd.ntmps50
  have hz : (one 53).size ≤ 1 := Nat.le_refl _
  have hz1 : (one 49).size ≤ 1 := Nat.le_refl _
  have hcv0 := strOne w _ rfl
  go_wp2
  go_loopw [0, 3] (fun v o wr => (v = .int .i64 15 ∧ o = .string ⟨#[]⟩ ∧ wr = w) ∨ (v = .int .i64 1 ∧ o = .string (one 53) ∧ wr = w.alloc (.cells #[.int .u8 53] 5))) (fun v _ _ => (intOf v).toNat)
  case atStart => exact .inl ⟨rfl, rfl, rfl⟩
  case round =>
    rcases hrel with ⟨rfl, rfl, rfl⟩ | ⟨rfl, rfl, rfl⟩
    · go_wp2
      go_roundw
      case rel => exact .inr ⟨rfl, congrArg Value.string (by decide), trivial⟩
      case measure => decide
    · have hcv := strOne (w.alloc (.cells #[.int .u8 53] 5)) (w.heap.size + 1) (by simp)
      go_wp2
      go_ret
      exact ⟨ret_str rfl, ((Below.refl _ _).alloc (Nat.le_refl _) _).alloc (by simp) _⟩
theorem dec_c (w : World) (n : Nat) (h : n ≤ 15) : Calls Tryd.prog 50 #[.int .i64 n] w fun e w' => e = .returned (.string ⟨(Lib.decDigits n).toArray⟩) ∧ Below w.heap.size w w' := by
  match n, h with
  | 0, _ => rw [show Lib.decDigits 0 = [48] from by decide +kernel]; exact dec_0 w
  | 1, _ => rw [show Lib.decDigits 1 = [49] from by decide +kernel]; exact dec_1 w
  | 2, _ => rw [show Lib.decDigits 2 = [50] from by decide +kernel]; exact dec_2 w
  | 3, _ => rw [show Lib.decDigits 3 = [51] from by decide +kernel]; exact dec_3 w
  | 4, _ => rw [show Lib.decDigits 4 = [52] from by decide +kernel]; exact dec_4 w
  | 5, _ => rw [show Lib.decDigits 5 = [53] from by decide +kernel]; exact dec_5 w
  | 6, _ => rw [show Lib.decDigits 6 = [54] from by decide +kernel]; exact dec_6 w
  | 7, _ => rw [show Lib.decDigits 7 = [55] from by decide +kernel]; exact dec_7 w
  | 8, _ => rw [show Lib.decDigits 8 = [56] from by decide +kernel]; exact dec_8 w
  | 9, _ => rw [show Lib.decDigits 9 = [57] from by decide +kernel]; exact dec_9 w
  | 10, _ => rw [show Lib.decDigits 10 = [49, 48] from by decide +kernel]; exact dec_10 w
  | 11, _ => rw [show Lib.decDigits 11 = [49, 49] from by decide +kernel]; exact dec_11 w
  | 12, _ => rw [show Lib.decDigits 12 = [49, 50] from by decide +kernel]; exact dec_12 w
  | 13, _ => rw [show Lib.decDigits 13 = [49, 51] from by decide +kernel]; exact dec_13 w
  | 14, _ => rw [show Lib.decDigits 14 = [49, 52] from by decide +kernel]; exact dec_14 w
  | 15, _ => rw [show Lib.decDigits 15 = [49, 53] from by decide +kernel]; exact dec_15 w
end Go.Proofs.YtmeoclkngjboiaaDoor
