/-
  PROVED HERE: what impl.RelValid and areRels do. CONDITIONS: as each theorem states.
-/
import Derived.Test.YtmeoclkngjboiaaDoorRelA
namespace Go.Proofs.YtmeoclkngjboiaaDoor
open Go.RowKit
set_option linter.unusedVariables false
set_option linter.unusedSimpArgs false

theorem shr_gt (x : Int) (n : Nat) (hx : 0 ≤ x) : decide ((0 : Int) < x / 2 ^ n) = !decide (x < 2 ^ n) := by
  have h2 : (0 : Int) < 2 ^ n := Int.pow_pos (by decide)
  by_cases h : x < 2 ^ n
  · rw [Int.ediv_eq_zero_of_lt hx h]; simp [h]
  · have : 1 ≤ x / 2 ^ n := (Int.le_ediv_iff_mul_le h2).2 (by omega)
    simp [h]; omega

/-- The number is a row of a relation on n elements. -/
def rowB (n : Nat) (x : Int) : Bool := decide (0 ≤ x) && decide (x < 2 ^ n)

theorem relRow_c (w : World) (b : Nat) (a : Option Addr) (cap n : Nat) (x : Int) (hn : n ≤ 16) (hc : w.cell? ⟨b, 0, none⟩ = some (.slice a n cap)) :
    Calls Tryd.prog 77 #[.int .i64 x, .pointer (some ⟨b, 0, none⟩)] w fun e w' => e = .returned (.bool (!rowB n x)) ∧ w = w' := by
  by_cases hx : x < 0
  · go_enter Tryd.func77, Tryd.ntmps77
    go_wp2
    go_ret
    refine ⟨ret_bool ?_, rfl⟩
    simp [rowB]; omega
  · have hd : decide (x < 0) = false := by simpa using hx
    have H : Hid (decide ((0 : Int) < x / 2 ^ n) = !decide (x < 2 ^ n)) := shr_gt x n (by omega)
    have h0 : 0 ≤ x := by omega
    go_enter Tryd.func77, Tryd.ntmps77
    go_wp2
    all_goals
      go_ret
      refine ⟨ret_bool ?_, rfl⟩
      first | exact H.out.trans (by simp [rowB, h0]) | (simp [rowB, h0]; done) | (rw [← Bool.not_inj_iff]; simp [rowB, h0])

/-- The place of the first number at which p holds, or -1. -/
def findI (p : Int → Bool) (xs : List Int) : Int := match xs.findIdx? p with | some i => (i : Nat) | none => -1
theorem findI_hit {p : Int → Bool} {xs : List Int} {k : Nat} {x : Int} (hk : xs[k]? = some x) (hp : p x = true) (h : ∀ (j : Nat) y, j < k → xs[j]? = some y → p y = false) : findI p xs = k := by
  have : xs.findIdx? p = some k := by
    rw [List.findIdx?_eq_some_iff_getElem]
    obtain ⟨hlt, he⟩ := List.getElem?_eq_some_iff.1 hk
    refine ⟨hlt, by rw [he]; exact hp, fun j hj => ?_⟩
    have := h j _ hj (List.getElem?_eq_getElem (by omega))
    simp [this]
  simp [findI, this]
theorem findI_none {p : Int → Bool} {xs : List Int} (h : ∀ (j : Nat) y, xs[j]? = some y → p y = false) : findI p xs = -1 := by
  have : xs.findIdx? p = none := by
    rw [List.findIdx?_eq_none_iff]
    intro x hx
    obtain ⟨j, hj, rfl⟩ := List.mem_iff_getElem.1 hx
    exact h j _ (List.getElem?_eq_getElem hj)
  simp [findI, this]
theorem findI_any (p : Int → Bool) (xs : List Int) : decide (0 ≤ findI p xs) = xs.any p := by
  unfold findI
  cases h : xs.findIdx? p with
  | none =>
    rw [List.findIdx?_eq_none_iff] at h
    have : xs.any p = false := by
      rw [List.any_eq_false]
      intro x hx; rw [h x hx]; simp
    rw [this]; rfl
  | some i =>
    obtain ⟨hlt, hp, _⟩ := List.findIdx?_eq_some_iff_getElem.1 h
    have : xs.any p = true := List.any_eq_true.2 ⟨_, List.getElem_mem hlt, hp⟩
    rw [this]
    simp
theorem findI_le (p : Int → Bool) (xs : List Int) : -1 ≤ findI p xs := by
  unfold findI; split <;> omega

theorem indexFunc_c (w : World) (f : Nat) (c : Value) (p : Int → Bool) (a : Option Addr) (cap : Nat) (xs : List Int) (h : Rd w a (ints xs)) (hl : xs.length ≤ 1048576)
    (hcf : ∀ args (w : World), (callFunc f args).run Tryd.prog w = .ok (.enter f args) w) (hf : ∀ x, Calls Tryd.prog f #[.int .i64 x, c] w fun e w' => e = .returned (.bool (p x)) ∧ w = w') :
    Calls Tryd.prog 94 #[.slice a xs.length cap, .func (.func f) #[] #[c]] w fun e w' => e = .returned (.int .i64 (findI p xs)) ∧ w = w' := by
  obtain ⟨n, hn⟩ : ∃ n, n = xs.length := ⟨_, rfl⟩
  have HN : Hid (n = xs.length) := hn
  have HF := hid hf
  rw [← hn] at hl ⊢
  clear hn hf
  go_enter Tryd.func94, Tryd.ntmps94
  go_wp2
  go_loop [8] (fun i => ∃ k : Nat, k ≤ n ∧ i = .int .i64 k ∧ ∀ (j : Nat) y, j < k → xs[j]? = some y → p y = false) (fun i => n - (intOf i).toNat)
  case atStart => exact ⟨0, Nat.zero_le _, rfl, fun j y hj => by omega⟩
  case round =>
    obtain ⟨k, hk, rfl, hall⟩ := hrel
    have HS : Hid _ := hall
    clear hall
    by_cases hlt : k < n
    · obtain ⟨b, off, rfl, hb, hc⟩ := h.int k (by rw [← HN.out]; exact hlt)
      obtain ⟨x, hx⟩ : ∃ x, x = xs[k]'(by rw [← HN.out]; exact hlt) := ⟨_, rfl⟩
      rw [← hx] at hc
      have hX : Hid (xs[k]? = some x) := by rw [hx]; exact List.getElem?_eq_getElem _
      clear h hx
      by_cases hp : p x = true
      · go_wp2_with fail
        refine (HF.out x).mono ?_
        rintro e w1 ⟨rfl, rfl⟩
        go_wp2
        go_ret
        exact ⟨ret_int (findI_hit hX.out hp HS.out).symm, rfl⟩
      · have hp : p x = false := by simpa using hp
        go_wp2_with fail
        refine (HF.out x).mono ?_
        rintro e w1 ⟨rfl, rfl⟩
        go_wp2
        go_round
        case rel => exact ⟨k + 1, by omega, by go_num, fun j y hj hy => by
          by_cases hjk : j = k
          · subst hjk; rw [hX.out] at hy; cases hy; exact hp
          · exact HS.out j y (by omega) hy⟩
        case measure => simp [intOf]; omega
    · go_wp2
      go_ret
      exact ⟨ret_int (findI_none fun j y hj => HS.out j y (by have := (List.getElem?_eq_some_iff.1 hj).1; have := HN.out; omega) hj).symm, rfl⟩

theorem containsFunc_c (w : World) (f : Nat) (c : Value) (p : Int → Bool) (a : Option Addr) (cap : Nat) (xs : List Int) (h : Rd w a (ints xs)) (hl : xs.length ≤ 1048576)
    (hcf : ∀ args (w : World), (callFunc f args).run Tryd.prog w = .ok (.enter f args) w) (hf : ∀ x, Calls Tryd.prog f #[.int .i64 x, c] w fun e w' => e = .returned (.bool (p x)) ∧ w = w') :
    Calls Tryd.prog 76 #[.slice a xs.length cap, .func (.func f) #[] #[c]] w fun e w' => e = .returned (.bool (xs.any p)) ∧ w = w' := by
  have C := hid (indexFunc_c w f c p a cap xs h hl hcf hf)
  have HP := hid (findI_any p xs)
  clear hf h hcf
  go_enter Tryd.func76, Tryd.ntmps76
  go_wp2_with fail
  refine C.out.mono ?_
  rintro e w1 ⟨rfl, rfl⟩
  go_wp2
  go_ret
  exact ⟨ret_bool HP.out, rfl⟩

theorem relValid_any (xs : List Int) (h : xs.length ≤ 16) : relValid xs = !xs.any (fun x => !rowB xs.length x) := by
  simp [relValid, h, rowB, List.all_eq_not_any_not]

theorem callRow : ∀ args (w : World), (callFunc 77 args).run Tryd.prog w = .ok (.enter 77 args) w :=
  fun args w => run_callFunc Tryd.func77 (by kernel_rfl) rfl args w

theorem relValidI_c (w : World) (a : Option Addr) (cap : Nat) (xs : List Int) (h : Rd w a (ints xs)) (hl : xs.length ≤ 1048576) :
    Calls Tryd.prog 51 #[.slice a xs.length cap] w fun e w' => e = .returned (.bool (relValid xs)) ∧ Below w.heap.size w w' := by
  by_cases hlen : xs.length ≤ 16
  · have HV := hid (relValid_any xs hlen)
    have C : Hid (∀ w1, Below w.heap.size w w1 → ∀ b, w1.cell? ⟨b, 0, none⟩ = some (.slice a xs.length cap) → Calls Tryd.prog 76 #[.slice a xs.length cap, .func (.func 77) #[] #[.pointer (some ⟨b, 0, none⟩)]] w1 fun e w' => e = .returned (.bool (xs.any (fun x => !rowB xs.length x))) ∧ w1 = w') :=
      fun w1 hb b hc => containsFunc_c w1 _ _ _ a cap xs (h.below hb) hl callRow fun x => relRow_c w1 b a cap xs.length x hlen hc
    have hle : (xs.length : Int) ≤ 16 := by omega
    clear h
    go_enter Tryd.func51, Tryd.ntmps51
    go_wp2_with fail
    refine (C.out _ ((Below.refl _ _).alloc (Nat.le_refl _) _) _ (by simp)).mono ?_
    rintro e w1 ⟨rfl, rfl⟩
    go_wp2
    go_ret
    exact ⟨ret_bool HV.out.symm, (Below.refl _ _).alloc (Nat.le_refl _) _⟩
  · have hv : relValid xs = false := by simp [relValid, hlen]
    have hle : decide ((xs.length : Int) ≤ 16) = false := by simp; omega
    rw [hv]
    go_enter Tryd.func51, Tryd.ntmps51
    go_wp2
    go_ret
    exact ⟨rfl, (Below.refl _ _).alloc (Nat.le_refl _) _⟩

end Go.Proofs.YtmeoclkngjboiaaDoor
