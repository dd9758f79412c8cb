/-
  PROVED HERE: what slices.Index, Contains do over numbers. CONDITIONS: as each theorem states.
-/
import Derived.Test.YtbncmeggnhggkaaRet
namespace Go.Proofs.Ytbncmeggnhggkaa
open Go.RowKit
set_option linter.unusedVariables false
set_option linter.unusedSimpArgs false

theorem index_c (w : World) (a : Option Addr) (cap : Nat) (xs : List Int) (x : Int) (h : Rd w a (ints xs)) (hl : xs.length ≤ 1048576) :
    Calls Try.prog 97 #[.slice a xs.length cap, .int .i64 x] w fun e w' => ∃ r : Int, e = .returned (.int .i64 r) ∧ (0 ≤ r ↔ x ∈ xs) ∧ w = w' := by
  obtain ⟨n, hn⟩ : ∃ n, n = xs.length := ⟨_, rfl⟩
  have HN := hid hn
  have HR := hid h
  rw [← hn] at hl ⊢
  clear hn h
  go_enter Try.func97, Try.ntmps97
  go_wp2
  go_loop [8] (fun i => ∃ k : Nat, k ≤ n ∧ i = .int .i64 k ∧ Hid (∀ (j : Nat) y, j < k → xs[j]? = some y → y ≠ x)) (fun i => n - (intOf i).toNat)
  case atStart => exact ⟨0, Nat.zero_le _, rfl, hid (fun j y hj => by omega)⟩
  case round =>
    obtain ⟨k, hk, rfl, HS⟩ := hrel
    by_cases hlt : k < n
    · obtain ⟨b, off, hab, hb, hc⟩ := HR.out.int k (by rw [← HN.out]; exact hlt)
      subst hab
      obtain ⟨y, hy⟩ : ∃ y, y = xs[k]'(by rw [← HN.out]; exact hlt) := ⟨_, rfl⟩
      rw [← hy] at hc
      have HX := hid (show xs[k]? = some y by rw [hy]; exact List.getElem?_eq_getElem _)
      clear hy
      by_cases hp : x = y
      · have d : (x == y) = true := by simpa using hp
        have HP := hid hp
        clear hp
        go_wp2
        go_ret
        refine ⟨_, rfl, ⟨fun _ => ?_, fun _ => by omega⟩, rfl⟩
        rw [HP.out]
        exact List.mem_of_getElem? HX.out
      · have d : (x == y) = false := by simpa using hp
        have HP := hid hp
        clear hp
        go_wp2_with fail
        go_round
        case rel => exact ⟨k + 1, by omega, by go_num, hid (fun j z hj hz => by
          by_cases hjk : j = k
          · subst hjk; rw [HX.out] at hz; cases hz; exact fun e => HP.out e.symm
          · exact HS.out j z (by omega) hz)⟩
        case measure => simp [intOf]; omega
    · go_wp2
      go_ret
      refine ⟨_, rfl, ⟨fun h => by omega, fun hm => ?_⟩, rfl⟩
      exfalso
      obtain ⟨j, hj, e⟩ := List.mem_iff_getElem.1 hm
      exact HS.out j x (by have := HN.out; omega) (by rw [List.getElem?_eq_getElem hj, e]) rfl

theorem contains_c (w : World) (a : Option Addr) (cap : Nat) (xs : List Int) (x : Int) (h : Rd w a (ints xs)) (hl : xs.length ≤ 1048576) :
    Calls Try.prog 74 #[.slice a xs.length cap, .int .i64 x] w fun e w' => e = .returned (.bool (decide (x ∈ xs))) ∧ w = w' := by
  have C := hid (index_c w a cap xs x h hl)
  clear h
  go_enter Try.func74, Try.ntmps74
  go_wp2_with fail
  refine C.out.mono ?_
  rintro e w1 ⟨r, rfl, hr, rfl⟩
  have HR := hid hr
  clear hr
  go_wp2
  go_ret
  exact ⟨ret_bool (decide_eq_decide.2 HR.out), rfl⟩
end Go.Proofs.Ytbncmeggnhggkaa
