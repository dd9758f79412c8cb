/-
  PROVED HERE: what heldInstrS and heldInstrSS do at rows that bear the marks. CONDITIONS: as each theorem states.
-/
import Derived.Test.YtmeoclkngjboiaaDoorPrgC
namespace Go.Proofs.YtmeoclkngjboiaaDoor
open Go.RowKit
set_option linter.unusedVariables false
set_option linter.unusedSimpArgs false

theorem heldInstrS_c (w : World) (a : Option Addr) (cap n : Nat) (k : Int) (h : Rd w a (insV (marksI k n))) (hl : n ≤ 1048576) (hk0 : 0 ≤ k) (hk1 : k ≤ 1000000000) :
    Calls Tryd.prog 34 #[.slice a n cap, .int .i64 k] w fun e w' => e = .returned (.int .i64 (k + 4 * (n : Nat))) ∧ w = w' := by
  have HH := hid h
  clear h
  go_enter Tryd.func34, Tryd.ntmps34
  go_wp2
  go_loop [1, 5] (fun c i => ∃ j : Nat, j ≤ n ∧ i = .int .i64 j ∧ c = .int .i64 (k + 4 * (j : Nat))) (fun _ i => n - (intOf i).toNat)
  case atStart => exact ⟨0, Nat.zero_le _, rfl, by simp⟩
  case round =>
    obtain ⟨j, hj, rfl, rfl⟩ := hrel
    by_cases hlt : j < n
    · obtain ⟨bx, ox, x, hax, hbx, hx, hat⟩ := HH.out.ins j (by rw [length_marksI]; exact hlt)
      subst hax
      rw [marksI_at k n j hlt] at hx
      have hx := Option.some.inj hx
      obtain ⟨K, hK⟩ : ∃ K, K = k + 4 * (j : Int) := ⟨_, rfl⟩
      have HK := hid (show k + 4 * ((j + 1 : Nat) : Int) = K + 4 by omega)
      rw [← hK] at hx ⊢
      subst hx
      obtain ⟨c0, c1, c2, c3⟩ := hat
      simp only [markI] at c0 c1 c2 c3
      have hk2 : K ≤ 2000000000 := by omega
      have hk3 : 0 ≤ K := by omega
      clear hbx hK
      go_wp2_with fail
      go_round
      case rel => exact ⟨j + 1, by omega, by go_num, by rw [HK.out]; go_num⟩
      case measure => simp [intOf]; omega
    · have HJ := hid (show j = n by omega)
      go_wp2
      go_ret
      exact ⟨ret_int (by rw [HJ.out]), rfl⟩

theorem heldInstrSS_c (w : World) (a : Option Addr) (cap : Nat) (p : Prg) (k : Int) (h : RdP w a (marksP k p)) (hl : sizeP p ≤ 1048576) (hk0 : 0 ≤ k) (hk1 : k ≤ 100000000) :
    Calls Tryd.prog 11 #[.slice a p.length cap, .int .i64 k] w fun e w' => e = .returned (.int .i64 (k + 4 * (sumTo p.length p : Nat))) ∧ w = w' := by
  have hpl := sizeP_len p
  have HS := hid (fun i => (show sumTo i p ≤ 1048576 from Nat.le_trans (sumTo_le p i) (by unfold sizeP at hl; omega)))
  have HL := hid hl
  have HH := hid h
  have HLM := hid (length_marksP k p)
  obtain ⟨n, hn⟩ : ∃ n, p.length = n := ⟨_, rfl⟩
  rw [hn] at hpl HLM ⊢
  have HN := hid hn
  have hln : n ≤ 1048576 := by omega
  clear hn hl hpl h
  go_enter Tryd.func11, Tryd.ntmps11
  go_wp2
  go_loop [1, 5] (fun c i => ∃ j : Nat, j ≤ n ∧ i = .int .i64 j ∧ c = .int .i64 (k + 4 * (sumTo j p : Nat))) (fun _ i => n - (intOf i).toNat)
  case atStart => exact ⟨0, Nat.zero_le _, rfl, by simp [sumTo_zero]⟩
  case round =>
    obtain ⟨j, hj, rfl, rfl⟩ := hrel
    by_cases hlt : j < n
    · obtain ⟨b, off, r, c, xs, hab, hb, hx, hc, hr⟩ := HH.out.at j (by rw [HLM.out]; exact hlt)
      subst hab
      obtain ⟨ys, hy⟩ : ∃ ys, p[j]? = some ys := ⟨_, List.getElem?_eq_getElem (by rw [HN.out]; exact hlt)⟩
      rw [marksP_at k p j ys hy] at hx
      have hx := Option.some.inj hx
      subst hx
      rw [length_marksI] at hc
      have hxl := Nat.le_trans (sizeP_row hy) HL.out
      have hs1 := HS.out j
      have HR := hid (sumTo_succ hy)
      obtain ⟨s, hs⟩ : ∃ s, s = sumTo j p := ⟨_, rfl⟩
      rw [← hs] at HR hs1 hr ⊢
      obtain ⟨m, hm⟩ : ∃ m, m = ys.length := ⟨_, rfl⟩
      rw [← hm] at HR hc hr hxl
      have HC := hid (heldInstrS_c w r c m (k + 4 * (s : Nat)) hr hxl (by omega) (by omega))
      clear hr hs hm hy
      go_wp2_with fail
      refine HC.out.mono ?_
      rintro e w2 ⟨rfl, rfl⟩
      go_wp2_with fail
      go_round
      case rel => exact ⟨j + 1, by omega, by go_num, by rw [HR.out]; simp; omega⟩
      case measure => simp [intOf]; omega
    · have HJ := hid (show j = n by omega)
      go_wp2
      go_ret
      exact ⟨ret_int (by rw [HJ.out]), rfl⟩
end Go.Proofs.YtmeoclkngjboiaaDoor
