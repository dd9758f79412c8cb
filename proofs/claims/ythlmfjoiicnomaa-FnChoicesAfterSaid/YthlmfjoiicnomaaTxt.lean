/-
  PROVED HERE: what spec.l1Letter and l17Dec give at small numbers. CONDITIONS: as each theorem states.
-/
import Derived.Test.YthlmfjoiicnomaaIns
import Derived.Laws.BytesArg
namespace Go.Proofs.Ythlmfjoiicnomaa
open Go.RowKit
set_option linter.unusedVariables false
set_option linter.unusedSimpArgs false

/-- The letter n places behind c. -/
def chr (c n : Nat) : ByteArray := ⟨#[UInt8.ofNat (c + n)]⟩
theorem chr_size (c n : Nat) : (chr c n).size = 1 := rfl
def one (k : Int) : ByteArray := ⟨#[UInt8.ofNat k.toNat]⟩
theorem strOne (w : World) (g : Nat) (hg : g = w.heap.size) (k : Int) : (convert 22 9 (.slice (some ⟨g, 0, none⟩) 1 1)).run Try.prog (w.alloc (.cells #[.int .u8 k] 5)) = .ok (.string (one k)) (w.alloc (.cells #[.int .u8 k] 5)) := by
  subst hg
  exact run_convert_bytes_arg _ 22 5 Try.underlying22 Try.underlying5 w.heap.size 0 1 1 [k] rfl (fun i hi => by
    obtain rfl : i = 0 := by omega
    simp) 9 Try.underlying9

set_option maxRecDepth 100000 in
theorem letter_x0 (w : World) : Calls Try.prog 111 #[.int .u8 120, .int .i64 0] w fun e w' => e = .returned (.string ⟨#[120]⟩) ∧ Below w.heap.size w w' := by
  have hcv := strOne w _ rfl
  go_enter Try.func111, Try.ntmps111
  go_wp2
  go_ret
  exact ⟨rfl, (Below.refl _ _).alloc (Nat.le_refl _) _⟩
set_option maxRecDepth 100000 in
theorem letter_x1 (w : World) : Calls Try.prog 111 #[.int .u8 120, .int .i64 1] w fun e w' => e = .returned (.string ⟨#[121]⟩) ∧ Below w.heap.size w w' := by
  have hcv := strOne w _ rfl
  go_enter Try.func111, Try.ntmps111
  go_wp2
  go_ret
  exact ⟨rfl, (Below.refl _ _).alloc (Nat.le_refl _) _⟩
set_option maxRecDepth 100000 in
theorem letter_x2 (w : World) : Calls Try.prog 111 #[.int .u8 120, .int .i64 2] w fun e w' => e = .returned (.string ⟨#[122]⟩) ∧ Below w.heap.size w w' := by
  have hcv := strOne w _ rfl
  go_enter Try.func111, Try.ntmps111
  go_wp2
  go_ret
  exact ⟨rfl, (Below.refl _ _).alloc (Nat.le_refl _) _⟩
theorem letter_x (w : World) (n : Nat) (h : n ≤ 2) : Calls Try.prog 111 #[.int .u8 120, .int .i64 n] w fun e w' => e = .returned (.string (chr 120 n)) ∧ Below w.heap.size w w' := by
  match n, h with
  | 0, _ => exact letter_x0 w
  | 1, _ => exact letter_x1 w
  | 2, _ => exact letter_x2 w
set_option maxRecDepth 100000 in
theorem letter_a0 (w : World) : Calls Try.prog 111 #[.int .u8 97, .int .i64 0] w fun e w' => e = .returned (.string ⟨#[97]⟩) ∧ Below w.heap.size w w' := by
  have hcv := strOne w _ rfl
  go_enter Try.func111, Try.ntmps111
  go_wp2
  go_ret
  exact ⟨rfl, (Below.refl _ _).alloc (Nat.le_refl _) _⟩
set_option maxRecDepth 100000 in
theorem letter_a1 (w : World) : Calls Try.prog 111 #[.int .u8 97, .int .i64 1] w fun e w' => e = .returned (.string ⟨#[98]⟩) ∧ Below w.heap.size w w' := by
  have hcv := strOne w _ rfl
  go_enter Try.func111, Try.ntmps111
  go_wp2
  go_ret
  exact ⟨rfl, (Below.refl _ _).alloc (Nat.le_refl _) _⟩
set_option maxRecDepth 100000 in
theorem letter_a2 (w : World) : Calls Try.prog 111 #[.int .u8 97, .int .i64 2] w fun e w' => e = .returned (.string ⟨#[99]⟩) ∧ Below w.heap.size w w' := by
  have hcv := strOne w _ rfl
  go_enter Try.func111, Try.ntmps111
  go_wp2
  go_ret
  exact ⟨rfl, (Below.refl _ _).alloc (Nat.le_refl _) _⟩
theorem letter_a (w : World) (n : Nat) (h : n ≤ 2) : Calls Try.prog 111 #[.int .u8 97, .int .i64 n] w fun e w' => e = .returned (.string (chr 97 n)) ∧ Below w.heap.size w w' := by
  match n, h with
  | 0, _ => exact letter_a0 w
  | 1, _ => exact letter_a1 w
  | 2, _ => exact letter_a2 w
set_option maxRecDepth 100000 in
theorem dec_0 (w : World) : Calls Try.prog 80 #[.int .i64 0] w fun e w' => e = .returned (.string ⟨#[48]⟩) ∧ Below w.heap.size w w' := by
  have hcv := strOne w _ rfl
  go_enter Try.func80, Try.ntmps80
  have hz : (one 48).size ≤ 1 := Nat.le_refl _
  go_wp2
  go_loop [0, 3] (fun v o => v = .int .i64 0 ∧ o = .string ⟨#[]⟩) (fun _ _ => 0)
  case atStart => exact ⟨rfl, rfl⟩
  case round =>
    obtain ⟨rfl, rfl⟩ := hrel
    go_wp2
    go_ret
    exact ⟨ret_str rfl, (Below.refl _ _).alloc (Nat.le_refl _) _⟩
set_option maxRecDepth 100000 in
theorem dec_1 (w : World) : Calls Try.prog 80 #[.int .i64 1] w fun e w' => e = .returned (.string ⟨#[49]⟩) ∧ Below w.heap.size w w' := by
  have hcv := strOne w _ rfl
  go_enter Try.func80, Try.ntmps80
  have hz : (one 49).size ≤ 1 := Nat.le_refl _
  go_wp2
  go_loop [0, 3] (fun v o => v = .int .i64 1 ∧ o = .string ⟨#[]⟩) (fun _ _ => 0)
  case atStart => exact ⟨rfl, rfl⟩
  case round =>
    obtain ⟨rfl, rfl⟩ := hrel
    go_wp2
    go_ret
    exact ⟨ret_str rfl, (Below.refl _ _).alloc (Nat.le_refl _) _⟩
set_option maxRecDepth 100000 in
theorem dec_2 (w : World) : Calls Try.prog 80 #[.int .i64 2] w fun e w' => e = .returned (.string ⟨#[50]⟩) ∧ Below w.heap.size w w' := by
  have hcv := strOne w _ rfl
  go_enter Try.func80, Try.ntmps80
  have hz : (one 50).size ≤ 1 := Nat.le_refl _
  go_wp2
  go_loop [0, 3] (fun v o => v = .int .i64 2 ∧ o = .string ⟨#[]⟩) (fun _ _ => 0)
  case atStart => exact ⟨rfl, rfl⟩
  case round =>
    obtain ⟨rfl, rfl⟩ := hrel
    go_wp2
    go_ret
    exact ⟨ret_str rfl, (Below.refl _ _).alloc (Nat.le_refl _) _⟩
set_option maxRecDepth 100000 in
theorem dec_3 (w : World) : Calls Try.prog 80 #[.int .i64 3] w fun e w' => e = .returned (.string ⟨#[51]⟩) ∧ Below w.heap.size w w' := by
  have hcv := strOne w _ rfl
  go_enter Try.func80, Try.ntmps80
  have hz : (one 51).size ≤ 1 := Nat.le_refl _
  go_wp2
  go_loop [0, 3] (fun v o => v = .int .i64 3 ∧ o = .string ⟨#[]⟩) (fun _ _ => 0)
  case atStart => exact ⟨rfl, rfl⟩
  case round =>
    obtain ⟨rfl, rfl⟩ := hrel
    go_wp2
    go_ret
    exact ⟨ret_str rfl, (Below.refl _ _).alloc (Nat.le_refl _) _⟩
set_option maxRecDepth 100000 in
theorem dec_4 (w : World) : Calls Try.prog 80 #[.int .i64 4] w fun e w' => e = .returned (.string ⟨#[52]⟩) ∧ Below w.heap.size w w' := by
  have hcv := strOne w _ rfl
  go_enter Try.func80, Try.ntmps80
  have hz : (one 52).size ≤ 1 := Nat.le_refl _
  go_wp2
  go_loop [0, 3] (fun v o => v = .int .i64 4 ∧ o = .string ⟨#[]⟩) (fun _ _ => 0)
  case atStart => exact ⟨rfl, rfl⟩
  case round =>
    obtain ⟨rfl, rfl⟩ := hrel
    go_wp2
    go_ret
    exact ⟨ret_str rfl, (Below.refl _ _).alloc (Nat.le_refl _) _⟩
set_option maxRecDepth 100000 in
theorem dec_5 (w : World) : Calls Try.prog 80 #[.int .i64 5] w fun e w' => e = .returned (.string ⟨#[53]⟩) ∧ Below w.heap.size w w' := by
  have hcv := strOne w _ rfl
  go_enter Try.func80, Try.ntmps80
  have hz : (one 53).size ≤ 1 := Nat.le_refl _
  go_wp2
  go_loop [0, 3] (fun v o => v = .int .i64 5 ∧ o = .string ⟨#[]⟩) (fun _ _ => 0)
  case atStart => exact ⟨rfl, rfl⟩
  case round =>
    obtain ⟨rfl, rfl⟩ := hrel
    go_wp2
    go_ret
    exact ⟨ret_str rfl, (Below.refl _ _).alloc (Nat.le_refl _) _⟩
set_option maxRecDepth 100000 in
theorem dec_6 (w : World) : Calls Try.prog 80 #[.int .i64 6] w fun e w' => e = .returned (.string ⟨#[54]⟩) ∧ Below w.heap.size w w' := by
  have hcv := strOne w _ rfl
  go_enter Try.func80, Try.ntmps80
  have hz : (one 54).size ≤ 1 := Nat.le_refl _
  go_wp2
  go_loop [0, 3] (fun v o => v = .int .i64 6 ∧ o = .string ⟨#[]⟩) (fun _ _ => 0)
  case atStart => exact ⟨rfl, rfl⟩
  case round =>
    obtain ⟨rfl, rfl⟩ := hrel
    go_wp2
    go_ret
    exact ⟨ret_str rfl, (Below.refl _ _).alloc (Nat.le_refl _) _⟩
set_option maxRecDepth 100000 in
theorem dec_7 (w : World) : Calls Try.prog 80 #[.int .i64 7] w fun e w' => e = .returned (.string ⟨#[55]⟩) ∧ Below w.heap.size w w' := by
  have hcv := strOne w _ rfl
  go_enter Try.func80, Try.ntmps80
  have hz : (one 55).size ≤ 1 := Nat.le_refl _
  go_wp2
  go_loop [0, 3] (fun v o => v = .int .i64 7 ∧ o = .string ⟨#[]⟩) (fun _ _ => 0)
  case atStart => exact ⟨rfl, rfl⟩
  case round =>
    obtain ⟨rfl, rfl⟩ := hrel
    go_wp2
    go_ret
    exact ⟨ret_str rfl, (Below.refl _ _).alloc (Nat.le_refl _) _⟩
set_option maxRecDepth 100000 in
theorem dec_8 (w : World) : Calls Try.prog 80 #[.int .i64 8] w fun e w' => e = .returned (.string ⟨#[56]⟩) ∧ Below w.heap.size w w' := by
  have hcv := strOne w _ rfl
  go_enter Try.func80, Try.ntmps80
  have hz : (one 56).size ≤ 1 := Nat.le_refl _
  go_wp2
  go_loop [0, 3] (fun v o => v = .int .i64 8 ∧ o = .string ⟨#[]⟩) (fun _ _ => 0)
  case atStart => exact ⟨rfl, rfl⟩
  case round =>
    obtain ⟨rfl, rfl⟩ := hrel
    go_wp2
    go_ret
    exact ⟨ret_str rfl, (Below.refl _ _).alloc (Nat.le_refl _) _⟩
set_option maxRecDepth 100000 in
theorem dec_9 (w : World) : Calls Try.prog 80 #[.int .i64 9] w fun e w' => e = .returned (.string ⟨#[57]⟩) ∧ Below w.heap.size w w' := by
  have hcv := strOne w _ rfl
  go_enter Try.func80, Try.ntmps80
  have hz : (one 57).size ≤ 1 := Nat.le_refl _
  go_wp2
  go_loop [0, 3] (fun v o => v = .int .i64 9 ∧ o = .string ⟨#[]⟩) (fun _ _ => 0)
  case atStart => exact ⟨rfl, rfl⟩
  case round =>
    obtain ⟨rfl, rfl⟩ := hrel
    go_wp2
    go_ret
    exact ⟨ret_str rfl, (Below.refl _ _).alloc (Nat.le_refl _) _⟩
theorem dec_c (w : World) (n : Nat) (h : n ≤ 9) : Calls Try.prog 80 #[.int .i64 n] w fun e w' => e = .returned (.string (chr 48 n)) ∧ Below w.heap.size w w' := by
  match n, h with
  | 0, _ => exact dec_0 w
  | 1, _ => exact dec_1 w
  | 2, _ => exact dec_2 w
  | 3, _ => exact dec_3 w
  | 4, _ => exact dec_4 w
  | 5, _ => exact dec_5 w
  | 6, _ => exact dec_6 w
  | 7, _ => exact dec_7 w
  | 8, _ => exact dec_8 w
  | 9, _ => exact dec_9 w
end Go.Proofs.Ythlmfjoiicnomaa
