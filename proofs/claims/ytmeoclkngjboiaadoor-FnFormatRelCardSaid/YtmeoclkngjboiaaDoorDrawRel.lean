/-
  PROVED HERE: what the drawing of relations does: spec.l2Size, l2Draw, l2Mutate, l2Order and the Draw functions. CONDITIONS: as each theorem states.
-/
import Derived.Test.YtmeoclkngjboiaaDoorDraw
import Derived.Test.YtmeoclkngjboiaaDoorRelI
namespace Go.Proofs.YtmeoclkngjboiaaDoor
open Go.RowKit
set_option linter.unusedVariables false
set_option linter.unusedSimpArgs false

theorem rd_lit (w : World) (xs : List Int) (e : Nat) : Rd (w.alloc (.cells (ints xs).toArray e)) (some ⟨w.heap.size, 0, none⟩) (ints xs) :=
  .inr ⟨w.heap.size, 0, rfl, by simp, fun j u hj => by rw [cell_of_row _ w.heap.size (0 + j) _ e (0, 0) (heap_alloc_new w _)]; simpa using hj⟩
theorem own_rdr_alloc {w : World} {g : Nat} {bs : List Int} {p : Nat} (h : Rdr w g bs p) (o : Obj) : Rdr (w.alloc o) g bs p := h.below ((Below.refl _ _).alloc (Nat.le_refl _) o)

theorem l2Size_c (w : World) (g : Nat) (bs : List Int) (p : Nat) (h : Rdr w g bs p) (hp : p ≤ 1000000) :
    Calls Tryd.prog 81 #[.pointer (some ⟨g, 0, none⟩)] w fun e w' => ∃ n : Nat, e = .returned (.int .i64 n) ∧ n ≤ 12 ∧ Rdr w' g bs (p + 1) ∧ w.grownBy w' (some g) := by
  have hlt := h.lt
  have C := hid (num_c (w.alloc (.cells (ints [4, 3, 5, 2, 6, 1, 0, 12]).toArray 3)) g bs p (some ⟨w.heap.size, 0, none⟩) 8 [4, 3, 5, 2, 6, 1, 0, 12] (own_rdr_alloc h _) hp (rd_lit w _ _) (fun b hb => by simp [blk] at hb; omega) (by decide) (by decide))
  go_enter Tryd.func81, Tryd.ntmps81
  go_wp2_with fail
  refine C.out.mono ?_
  rintro e w1 ⟨x, rfl, hx, hr, hg⟩
  have hx' : 0 ≤ x ∧ x ≤ 12 := by
    simp only [List.mem_cons, List.not_mem_nil, or_false] at hx
    omega
  obtain ⟨n, rfl⟩ : ∃ n : Nat, x = n := ⟨x.toNat, by omega⟩
  go_wp2
  go_ret
  exact ⟨n, rfl, by omega, hr, grown_trans (World.grownBy_alloc w _ (some g)) hg (fun k hk => .inl hk.symm)⟩

theorem snoc_ints (ys : List Int) (x : Int) : ints ys ++ [Value.int .i64 x] = ints (ys ++ [x]) := by simp

set_option maxHeartbeats 1600000 in
theorem l2Draw_c (w : World) (g : Nat) (bs : List Int) (p n : Nat) (h : Rdr w g bs p) (hp : p ≤ 900000) (hn : n ≤ 13) :
    Calls Tryd.prog 80 #[.pointer (some ⟨g, 0, none⟩), .int .i64 n] w fun e w' => ∃ (ys : List Int) (a : Option Addr) (cap p' : Nat), e = .returned (.slice a ys.length cap) ∧ ys.length = n ∧ OwI w' w.heap.size a cap ys ∧ Rdr w' g bs p' ∧ p' ≤ p + 64 ∧ w.grownBy w' (some g) := by
  have hglt := h.lt
  have HR := hid h
  clear h
  obtain ⟨t, ht⟩ : ∃ t : Int, t = 2 ^ n := ⟨_, rfl⟩
  have htb := two_pow_le n (by omega)
  rw [← ht] at htb
  have CF := hid (fun w => l2Full_c w n (by omega))
  rw [← ht] at CF
  clear ht
  refine Calls.mono (R := fun e w' => ∃ (ys : List Int) (a : Option Addr) (cap p' : Nat), e = .returned (.slice a n cap) ∧ ys.length = n ∧ w'.ownsRow w.heap.size 3 1 (.slice a n cap) n (ints ys) ∧ Rdr w' g bs p' ∧ p' ≤ p + 64 ∧ w.grownBy w' (some g)) ?_ (fun e w' h => by
    obtain ⟨ys, a, cap, p', rfl, hl, h2, h3⟩ := h
    subst hl
    exact ⟨ys, a, cap, p', rfl, rfl, h2, h3⟩)
  go_enter Tryd.func80, Tryd.ntmps80
  go_wp2_with fail
  refine (pick_c _ g bs p _ (own_rdr_alloc HR.out _) (by omega) (by omega)).mono ?_
  rintro e w1 ⟨thin, rfl, ht0, ht1, hr1, hg1⟩
  have hg01 : w.grownBy w1 (some g) := grown_trans (World.grownBy_alloc w _ (some g)) hg1 (fun k hk => .inl hk.symm)
  have hown1 : w1.ownsRow w.heap.size 3 1 (.slice (some ⟨w.heap.size, 0, none⟩) 0 0) 0 (ints []) := own_rdr (own_rdr_alloc HR.out _) (own_lit0 w w.heap.size 3 (Nat.le_refl _)) hg1
  obtain ⟨th, rfl⟩ : ∃ th : Nat, thin = th := ⟨thin.toNat, by omega⟩
  have hth : th ≤ 2 := by omega
  clear ht0 ht1 hg1
  go_wp2
  go_loopw [5, 7] (fun v i wr => ∃ (k : Nat) (ys : List Int) (q : Nat), k ≤ n ∧ i = .int .i64 k ∧ ys.length = k ∧ wr.ownsRow w.heap.size 3 1 v k (ints ys) ∧ Rdr wr g bs q ∧ q ≤ p + 1 + 3 * k ∧ w.grownBy wr (some g)) (fun _ i _ => n - (intOf i).toNat)
  case atStart => exact ⟨0, [], p + 1, Nat.zero_le _, rfl, rfl, hown1, hr1, by omega, hg01⟩
  case round =>
    clear hown1 hr1 hg01
    obtain ⟨k, ys, q, hk, rfl, hyl, hown, hr, hq, hg⟩ := hrel
    have HYL := hid hyl
    clear hyl
    by_cases hlt : k < n
    · obtain ⟨wo, rfl⟩ : ∃ wo : World, wo = wr := ⟨_, rfl⟩
      go_wp2_with fail
      refine (CF.out _).mono ?_
      rintro e w2 ⟨rfl, rfl⟩
      go_wp2_with fail
      refine (pick_c _ g bs q _ hr (by omega) (by omega)).mono ?_
      rintro e w2 ⟨row, rfl, hx0, hx1, hr2, hg2⟩
      have hown2 := own_rdr hr hown hg2
      have hg02 : w.grownBy w2 (some g) := grown_trans hg hg2 (fun k hk => .inl hk.symm)
      clear hx0 hx1 hg2 hown hr hg
      go_wp2
      go_loopw [8, 9] (fun r j wr => ∃ (m : Nat) (x : Int) (q' : Nat), m ≤ th ∧ j = .int .i64 m ∧ r = .int .i64 x ∧ wr.ownsRow w.heap.size 3 1 u5 k (ints ys) ∧ Rdr wr g bs q' ∧ q' ≤ q + 1 + m ∧ w.grownBy wr (some g)) (fun _ j _ => th - (intOf j).toNat)
      case atStart => exact ⟨0, row, q + 1, Nat.zero_le _, rfl, rfl, hown2, hr2, by omega, hg02⟩
      case round =>
        clear hown2 hr2 hg02
        obtain ⟨m, x, q', hm, rfl, rfl, hown, hr, hq', hg⟩ := hrel
        by_cases hlm : m < th
        · go_wp2_with fail
          refine (CF.out _).mono ?_
          rintro e w3 ⟨rfl, rfl⟩
          go_wp2_with fail
          refine (pick_c _ g bs q' _ hr (by omega) (by omega)).mono ?_
          rintro e w3 ⟨y, rfl, hx0, hx1, hr2, hg2⟩
          have hown2 := own_rdr hr hown hg2
          have hg02 : w.grownBy w3 (some g) := grown_trans hg hg2 (fun k hk => .inl hk.symm)
          clear hx0 hx1 hg2 hown hr hg
          go_wp2
          go_roundw
          case rel => exact ⟨m + 1, _, q' + 1, by omega, by go_num, rfl, hown2, hr2, by omega, hg02⟩
          case measure => simp [intOf]; omega
        · have hsz := hg.size
          go_wp2_with (at_builtin; refine wpList_append_one rfl (.tmp 35) (.tmp 37) 34 rfl w.heap.size 3 (.int .i64 0) 8 Tryd.underlying34 Tryd.info_int rfl _ _ _ rfl (hown.alloc _) _ (.int .i64 x) rfl (by simp) rfl (by omega) (by omega) (by simp; omega) ?_)
          intro v3 w3 hown3 hgrow3
          rw [snoc_ints] at hown3
          have hl := hown.lt
          have hr3 : Rdr w3 g bs q' := by
            have hlt' := hr.lt
            have hs := hg.size
            exact (own_rdr_alloc hr _).kept hgrow3 (fun b hb => by have := (hl b hb).1; omega)
          have hg3 : w.grownBy w3 (some g) := grown_trans (grown_alloc hg _) hgrow3 (fun b hb => .inr (hl b hb).1)
          clear hown hgrow3 hr hg hl
          go_wp2
          go_roundw
          case rel => exact ⟨k + 1, ys ++ [x], q', by omega, by go_num, by rw [List.length_append, HYL.out]; rfl, hown3, hr3, by omega, hg3⟩
          case measure => simp [intOf]; omega
    · obtain ⟨a1, cap1, rfl, _⟩ := own_shape hown
      go_wp2
      go_ret
      obtain rfl : k = n := by omega
      exact ⟨ys, _, _, q, rfl, HYL.out, hown, hr, by omega, hg⟩
end Go.Proofs.YtmeoclkngjboiaaDoor
