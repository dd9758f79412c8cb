/-
  PROVED HERE: what slices.IndexFunc and ContainsFunc do over a slice of numbers with a function that captures nothing. CONDITIONS: as each theorem states.
-/
import Derived.Test.YthlmfjoiicnomaaPrz
namespace Go.Proofs.Ythlmfjoiicnomaa
open Go.RowKit
set_option linter.unusedVariables false
set_option linter.unusedSimpArgs false

/-- The place of the first number at which p holds, or -1. -/
def findI (p : Int → Bool) (xs : List Int) : Int := match xs.findIdx? p with | some i => (i : Nat) | none => -1
theorem findI_hit {p : Int → Bool} {xs : List Int} {k : Nat} {x : Int} (hk : xs[k]? = some x) (hp : p x = true) (h : ∀ (j : Nat) y, j < k → xs[j]? = some y → p y = false) : findI p xs = k := by
  have : xs.findIdx? p = some k := by
    rw [List.findIdx?_eq_some_iff_getElem]
    obtain ⟨hlt, he⟩ := List.getElem?_eq_some_iff.1 hk
    refine ⟨hlt, by rw [he]; exact hp, fun j hj => ?_⟩
    have := h j _ hj (List.getElem?_eq_getElem (by omega))
    simp [this]
  simp [findI, this]
theorem findI_none {p : Int → Bool} {xs : List Int} (h : ∀ (j : Nat) y, xs[j]? = some y → p y = false) : findI p xs = -1 := by
  have : xs.findIdx? p = none := by
    rw [List.findIdx?_eq_none_iff]
    intro x hx
    obtain ⟨j, hj, rfl⟩ := List.mem_iff_getElem.1 hx
    exact h j _ (List.getElem?_eq_getElem hj)
  simp [findI, this]
theorem findI_any (p : Int → Bool) (xs : List Int) : decide (0 ≤ findI p xs) = xs.any p := by
  unfold findI
  cases h : xs.findIdx? p with
  | none =>
    rw [List.findIdx?_eq_none_iff] at h
    have : xs.any p = false := by
      rw [List.any_eq_false]
      intro x hx; rw [h x hx]; simp
    rw [this]; rfl
  | some i =>
    obtain ⟨hlt, hp, _⟩ := List.findIdx?_eq_some_iff_getElem.1 h
    have : xs.any p = true := List.any_eq_true.2 ⟨_, List.getElem_mem hlt, hp⟩
    rw [this]
    simp
theorem findI_le (p : Int → Bool) (xs : List Int) : -1 ≤ findI p xs := by
  unfold findI; split <;> omega

theorem indexFunc_c (w : World) (f : Nat) (p : Int → Bool) (a : Option Addr) (cap : Nat) (xs : List Int) (h : Rd w a (ints xs)) (hl : xs.length ≤ 1048576)
    (hcf : ∀ args (w : World), (callFunc f args).run Try.prog w = .ok (.enter f args) w) (hf : ∀ x, Calls Try.prog f #[.int .i64 x] w fun e w' => e = .returned (.bool (p x)) ∧ w = w') :
    Calls Try.prog 93 #[.slice a xs.length cap, .func (.func f) #[] #[]] w fun e w' => e = .returned (.int .i64 (findI p xs)) ∧ w = w' := by
  obtain ⟨n, hn⟩ : ∃ n, n = xs.length := ⟨_, rfl⟩
  have HN : Hid (n = xs.length) := hn
  have HF := hid hf
  rw [← hn] at hl ⊢
  clear hn hf
  go_enter Try.func93, Try.ntmps93
  go_wp2
  go_loop [8] (fun i => ∃ k : Nat, k ≤ n ∧ i = .int .i64 k ∧ ∀ (j : Nat) y, j < k → xs[j]? = some y → p y = false) (fun i => n - (intOf i).toNat)
  case atStart => exact ⟨0, Nat.zero_le _, rfl, fun j y hj => by omega⟩
  case round =>
    obtain ⟨k, hk, rfl, hall⟩ := hrel
    have HS : Hid _ := hall
    clear hall
    by_cases hlt : k < n
    · obtain ⟨b, off, rfl, hb, hc⟩ := h.int k (by rw [← HN.out]; exact hlt)
      obtain ⟨x, hx⟩ : ∃ x, x = xs[k]'(by rw [← HN.out]; exact hlt) := ⟨_, rfl⟩
      rw [← hx] at hc
      have hX : Hid (xs[k]? = some x) := by rw [hx]; exact List.getElem?_eq_getElem _
      clear h hx
      by_cases hp : p x = true
      · go_wp2_with fail
        refine (HF.out x).mono ?_
        rintro e w1 ⟨rfl, rfl⟩
        go_wp2
        go_ret
        exact ⟨ret_int (findI_hit hX.out hp HS.out).symm, rfl⟩
      · have hp : p x = false := by simpa using hp
        go_wp2_with fail
        refine (HF.out x).mono ?_
        rintro e w1 ⟨rfl, rfl⟩
        go_wp2
        go_round
        case rel => exact ⟨k + 1, by omega, by go_num, fun j y hj hy => by
          by_cases hjk : j = k
          · subst hjk; rw [hX.out] at hy; cases hy; exact hp
          · exact HS.out j y (by omega) hy⟩
        case measure => simp [intOf]; omega
    · go_wp2
      go_ret
      exact ⟨ret_int (findI_none fun j y hj => HS.out j y (by have := (List.getElem?_eq_some_iff.1 hj).1; have := HN.out; omega) hj).symm, rfl⟩

theorem containsFunc_c (w : World) (f : Nat) (p : Int → Bool) (a : Option Addr) (cap : Nat) (xs : List Int) (h : Rd w a (ints xs)) (hl : xs.length ≤ 1048576)
    (hcf : ∀ args (w : World), (callFunc f args).run Try.prog w = .ok (.enter f args) w) (hf : ∀ x, Calls Try.prog f #[.int .i64 x] w fun e w' => e = .returned (.bool (p x)) ∧ w = w') :
    Calls Try.prog 75 #[.slice a xs.length cap, .func (.func f) #[] #[]] w fun e w' => e = .returned (.bool (xs.any p)) ∧ w = w' := by
  have C := hid (indexFunc_c w f p a cap xs h hl hcf hf)
  have HP := hid (findI_any p xs)
  clear hf h hcf
  go_enter Try.func75, Try.ntmps75
  go_wp2_with fail
  refine C.out.mono ?_
  rintro e w1 ⟨rfl, rfl⟩
  go_wp2
  go_ret
  exact ⟨ret_bool HP.out, rfl⟩

end Go.Proofs.Ythlmfjoiicnomaa
