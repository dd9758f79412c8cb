/-
  PROVED HERE: what laws.wmIn does; what a round of laws.FnFindCycle finds. CONDITIONS: as each theorem states.
-/
import Derived.Test.YtdppidhnlbfpmaaWm
import Derived.Test.YtdppidhnlbfpmaaCycLaw
import Derived.Test.YtdppidhnlbfpmaaRelJ
namespace Go.Proofs.Ytdppidhnlbfpmaa
open Go.RowKit
set_option linter.unusedVariables false
set_option linter.unusedSimpArgs false

theorem wmInNo_c (w : World) (a : Option Addr) (cap : Nat) (xs : List Int) (x : Int) (h : Rd w a (ints xs)) (hl : xs.length ≤ 1048576) (hx : x ∉ xs) :
    Calls Try.prog 46 #[.slice a xs.length cap, .int .i64 x] w fun e w' => e = .returned (.bool false) ∧ w' = w := by
  have HX := hid (fun (k : Nat) (hk : k < xs.length) => show (xs[k] == x) = false by
    simp only [beq_eq_false_iff_ne, ne_eq]
    intro e
    exact hx (e ▸ List.getElem_mem hk))
  clear hx
  obtain ⟨n, hn⟩ : ∃ n, n = xs.length := ⟨_, rfl⟩
  rw [← hn] at hl ⊢
  have HN := hid hn
  clear hn
  refine Calls.mono (R := fun e w' => e = .returned (.bool false) ∧ w = w') ?_ (fun e w' h => ⟨h.1, h.2.symm⟩)
  go_enter Try.func46, Try.ntmps46
  go_wp2
  go_loop [5] (fun i => ∃ k : Nat, k ≤ n ∧ i = .int .i64 k) (fun i => n - (intOf i).toNat)
  case atStart => exact ⟨0, Nat.zero_le _, rfl⟩
  case round =>
    obtain ⟨k, hk, rfl⟩ := hrel
    by_cases hlt : k < n
    · obtain ⟨b, off, rfl, hb, hc⟩ := h.int k (by rw [← HN.out]; exact hlt)
      have hne := HX.out k (by rw [← HN.out]; exact hlt)
      obtain ⟨y, hy⟩ : ∃ y, y = xs[k]'(by rw [← HN.out]; exact hlt) := ⟨_, rfl⟩
      rw [← hy] at hc hne
      clear h hy
      go_wp2
      go_round
      case rel => exact ⟨k + 1, by omega, by go_num⟩
      case measure => simp [intOf]; omega
    · go_wp2
      go_ret
      exact ⟨rfl, rfl⟩

theorem own_cap {w : World} {base n cap : Nat} {a : Option Addr} {cs : List Value} (h : w.ownsRow base 3 1 (.slice a n cap) n cs) : n ≤ cap := by
  rcases h.2 with ⟨hv, hn⟩ | ⟨g, cap', cur, hv, hb, hg, hroom, _⟩
  · omega
  · simp only [Value.slice.injEq] at hv
    obtain ⟨_, _, rfl⟩ := hv
    first | exact hroom | omega | skip
theorem rd_take {w : World} {a : Option Addr} {xs : List Int} (h : Rd w a (ints xs)) (k : Nat) : Rd w a (ints (xs.take k)) := by
  have e : ints (xs.take k) = (ints xs).take k := List.map_take
  rw [e]
  rcases h with h | ⟨b, off, hb, hl, hc⟩
  · exact .inl (by rw [h]; simp)
  · refine .inr ⟨b, off, hb, hl, fun j u hj => hc j u ?_⟩
    rw [List.getElem?_take] at hj
    split at hj
    · exact hj
    · cases hj
/-- What a round meets. -/
theorem cyc_at {us : List Nat} (ho : Ok us) {xs cs : List Int} (hx : xs = castI us) (h : cs = castI (cycleN us)) (k : Nat) (hk : k < cs.length) :
    ∃ x y r : Nat, cs[k]? = some (x : Int) ∧ cs[(k + 1) % cs.length]? = some (y : Int) ∧ xs[x]? = some (r : Int) ∧ x < xs.length ∧ y < 16 ∧ r < 65536 ∧ (bits .and .i64 ((r : Int) / 2 ^ y) 1 != 1) = false ∧ (x : Int) ∉ cs.take k := by
  obtain ⟨hc, _⟩ := cycle_law ho
  subst hx
  subst h
  generalize cycleN us = c at hc hk
  rw [length_castI] at hk ⊢
  have h1 : c[k]? = some c[k] := List.getElem?_eq_getElem hk
  have h2 : c[(k + 1) % c.length]? = some (c[(k + 1) % c.length]'(Nat.mod_lt _ (by omega))) := List.getElem?_eq_getElem _
  have hb := hc.next k _ _ h1 h2
  obtain ⟨b1, b2⟩ := ho.bit_lt hb
  have h3 : us[c[k]]? = some us[c[k]] := List.getElem?_eq_getElem b1
  have hr := ho.at b1
  have hl := ho.len
  refine ⟨c[k], c[(k + 1) % c.length]'(Nat.mod_lt _ (by omega)), us[c[k]], by simp [castI, hk], by simp [castI, h2], by simp [castI, h3], by rw [length_castI]; exact b1, by omega, hr, ?_, ?_⟩
  · rw [bit_at h3] at hb
    have := bit_i64 us[c[k]] (c[(k + 1) % c.length]'(Nat.mod_lt _ (by omega))) hr
    rw [hb] at this
    simp only [bne, this]
    rfl
  · intro hm
    obtain ⟨j, hj⟩ := List.getElem?_of_mem hm
    rw [List.getElem?_take] at hj
    split at hj
    · rename_i hjk
      have : c[j]? = some c[k] := by
        simp only [castI, List.getElem?_map, Option.map_eq_some_iff] at hj
        obtain ⟨z, hz, e⟩ := hj
        rw [hz]
        have : z = c[k] := by exact_mod_cast e
        rw [this]
      have := hc.once j k _ this h1
      omega
    · cases hj
end Go.Proofs.Ytdppidhnlbfpmaa
