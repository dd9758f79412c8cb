/-
  PROVED HERE: what InstrValid of both packages does. CONDITIONS: as each theorem states.
-/
import Derived.Test.YthlmfjoiicnomaaPrz
namespace Go.Proofs.Ythlmfjoiicnomaa
open Go.RowKit
set_option linter.unusedVariables false
set_option linter.unusedSimpArgs false

theorem toInstr_c (w : World) (x : Ins) :
    Calls Try.prog 73 #[x.v] w fun e w' => e = .returned x.v ∧ Below w.heap.size w w' := by
  obtain ⟨o, l, r, v⟩ := x
  go_enter Try.func73, Try.ntmps73
  go_wp2
  exact bodyPost_ret (v := .agg #[.int .i64 o, .int .i64 l, .int .i64 r, .int .i64 v]) (by simp [results, Try.results73, go_sem]) rfl ⟨rfl, (((Below.refl w.heap.size w).alloc (Nat.le_refl _) _).alloc (by simp) _).alloc (by simp; omega) _⟩
def in01 (x m : Int) : Bool := decide (0 ≤ x) && decide (x ≤ m)
theorem l1In_c (w : World) (n m : Int) :
    Calls Try.prog 79 #[.int .i64 n, .int .i64 m] w fun e w' => e = .returned (.bool (in01 n m)) ∧ w' = w := by
  unfold in01
  go_enter Try.func79, Try.ntmps79
  go_wp2
  · go_ret
    rename_i h
    exact ⟨by simp [h], rfl⟩
  · go_ret
    rename_i h
    exact ⟨by simp; omega, rfl⟩
theorem within_c (w : World) (x a b : Int) :
    Calls Try.prog 42 #[.int .i64 x, .int .i64 a, .int .i64 b] w fun e w' => e = .returned (.bool (decide (a ≤ x) && decide (x ≤ b))) ∧ w' = w := by
  go_enter Try.func42, Try.ntmps42
  go_wp2
  · go_ret
    rename_i h
    exact ⟨by simp [h], rfl⟩
  · go_ret
    rename_i h
    exact ⟨by simp; omega, rfl⟩

/-- What makes an instruction valid. -/
def insValid (x : Ins) : Bool :=
  if x.op = 1 ∨ x.op = 3 then in01 x.loc 2 && in01 x.reg 2 && (x.val == 0)
  else if x.op = 2 then in01 x.loc 2 && (x.reg == 0) && in01 x.val 3
  else if x.op = 4 then (x.loc == 0) && (x.reg == 0) && (x.val == 0)
  else if x.op = 5 then in01 x.loc 2 && in01 x.reg 2 && in01 x.val 3
  else false

set_option maxHeartbeats 1600000 in
theorem validS_c (w : World) (x : Ins) :
    Calls Try.prog 90 #[x.v] w fun e w' => e = .returned (.bool (insValid x)) ∧ Below w.heap.size w w' := by
  obtain ⟨o, l, r, v⟩ := x
  have HC := hid (fun w n m => l1In_c w n m)
  go_enter Try.func90, Try.ntmps90
  go_wp2_with (first | ((go_at_call 79); refine (HC.out _ _ _).mono ?_; rintro e w1 ⟨rfl, rfl⟩))
  all_goals (go_ret; refine ⟨?_, (Below.refl _ _).alloc (Nat.le_refl _) _⟩)
  all_goals simp_all [insValid]

set_option maxHeartbeats 1600000 in
theorem validI_c (w : World) (x : Ins) :
    Calls Try.prog 43 #[x.v] w fun e w' => e = .returned (.bool (insValid x)) ∧ Below w.heap.size w w' := by
  obtain ⟨o, l, r, v⟩ := x
  have HC := hid (fun w x a b => within_c w x a b)
  by_cases h1 : o = 1
  · subst h1
    go_enter Try.func43, Try.ntmps43
    go_wp2_with fail
    go_region
    all_goals go_wp2_with (first | ((go_at_call 42); refine (HC.out _ _ _ _).mono ?_; rintro e w1 ⟨rfl, rfl⟩))
    all_goals (go_ret; refine ⟨?_, by first | exact below_drewN 1 (((Below.refl _ _).alloc (Nat.le_refl _) _).alloc (by simp) _) | exact (((Below.refl _ _).alloc (Nat.le_refl _) _).alloc (by simp) _) | exact (Below.refl _ _).alloc (Nat.le_refl _) _⟩)
    all_goals simp_all [insValid, in01]
    all_goals (intros; omega)
  by_cases h3 : o = 3
  · subst h3
    go_enter Try.func43, Try.ntmps43
    go_wp2_with fail
    go_region
    all_goals go_wp2_with (first | ((go_at_call 42); refine (HC.out _ _ _ _).mono ?_; rintro e w1 ⟨rfl, rfl⟩))
    all_goals (go_ret; refine ⟨?_, by first | exact below_drewN 1 (((Below.refl _ _).alloc (Nat.le_refl _) _).alloc (by simp) _) | exact (((Below.refl _ _).alloc (Nat.le_refl _) _).alloc (by simp) _) | exact (Below.refl _ _).alloc (Nat.le_refl _) _⟩)
    all_goals simp_all [insValid, in01]
    all_goals (intros; omega)
  by_cases h2 : o = 2
  · subst h2
    go_enter Try.func43, Try.ntmps43
    go_wp2_with fail
    go_region
    all_goals go_wp2_with (first | ((go_at_call 42); refine (HC.out _ _ _ _).mono ?_; rintro e w1 ⟨rfl, rfl⟩))
    all_goals (go_ret; refine ⟨?_, by first | exact below_drewN 1 (((Below.refl _ _).alloc (Nat.le_refl _) _).alloc (by simp) _) | exact (((Below.refl _ _).alloc (Nat.le_refl _) _).alloc (by simp) _) | exact (Below.refl _ _).alloc (Nat.le_refl _) _⟩)
    all_goals simp_all [insValid, in01]
    all_goals (intros; omega)
  go_enter Try.func43, Try.ntmps43
  go_wp2_with (first | ((go_at_call 42); refine (HC.out _ _ _ _).mono ?_; rintro e w1 ⟨rfl, rfl⟩))
  all_goals (go_ret; refine ⟨?_, by first | exact below_drewN 1 (((Below.refl _ _).alloc (Nat.le_refl _) _).alloc (by simp) _) | exact (((Below.refl _ _).alloc (Nat.le_refl _) _).alloc (by simp) _) | exact (Below.refl _ _).alloc (Nat.le_refl _) _⟩)
  all_goals simp_all [insValid, in01]
  all_goals (intros; omega)
end Go.Proofs.Ythlmfjoiicnomaa
