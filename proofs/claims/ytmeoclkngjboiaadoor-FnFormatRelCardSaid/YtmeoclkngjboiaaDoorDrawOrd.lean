/-
  PROVED HERE: what the drawing of relations does: spec.l2Mutate, l2Order. CONDITIONS: as each theorem states.
-/
import Derived.Test.YtmeoclkngjboiaaDoorDrawRel
import Derived.Test.YtmeoclkngjboiaaDoorMixQ
namespace Go.Proofs.YtmeoclkngjboiaaDoor
open Go.RowKit
set_option linter.unusedVariables false
set_option linter.unusedSimpArgs false

theorem ints_oneCell (xs : List Int) : ∀ u ∈ ints xs, u.oneCell' = true := by
  intro u hu
  obtain ⟨n, _, rfl⟩ := List.mem_map.1 hu
  rfl
theorem ints_set (xs : List Int) (i : Nat) (x : Int) : (ints xs).set i (.int .i64 x) = ints (xs.set i x) := by simp [ints]
theorem grown_set {w wr : World} {row : Option Nat} (h : w.grownBy wr row) (b i : Nat) (v : Value) (hb : w.heap.size ≤ b) : w.grownBy (wr.setCell ⟨b, i, none⟩ v) row :=
  grown_trans h (row2 := some b) ⟨rfl, rfl, rfl, by simp, fun k _ hk => heap_setCell_other wr ⟨b, i, none⟩ k _ (fun e => hk (by simp [e]))⟩ (fun k hk => by cases hk; exact .inr hb)
theorem Rdr.set {w : World} {g : Nat} {bs : List Int} {p : Nat} (h : Rdr w g bs p) (b i : Nat) (v : Value) (hb : g < b) : Rdr (w.setCell ⟨b, i, none⟩ v) g bs p :=
  h.kept (row := some b) ⟨rfl, rfl, rfl, by simp, fun k _ hk => heap_setCell_other w ⟨b, i, none⟩ k _ (fun e => hk (by simp [e]))⟩ (fun k hk => by cases hk; exact hb)

theorem own_up {w : World} {base base' e size n : Nat} {v : Value} {cs : List Value} (h : w.ownsRow base e size v n cs) (hb : base' ≤ base) : w.ownsRow base' e size v n cs := by
  refine ⟨h.1, h.2.imp id ?_⟩
  rintro ⟨g, cap, cur, hv, hg, r⟩
  exact ⟨g, cap, cur, hv, Nat.le_trans hb hg, r⟩

set_option maxHeartbeats 1600000 in
theorem l2Mutate_c (w : World) (g : Nat) (bs : List Int) (p : Nat) (a : Option Addr) (cap : Nat) (xs : List Int) (h : Rdr w g bs p) (hp : p ≤ 900000) (hx : Rd w a (ints xs)) (hl : xs.length ≤ 16) :
    Calls Tryd.prog 79 #[.pointer (some ⟨g, 0, none⟩), .slice a xs.length cap] w fun e w' => ∃ (ys : List Int) (a : Option Addr) (cap p' : Nat), e = .returned (.slice a ys.length cap) ∧ ys.length ≤ 17 ∧ OwI w' w.heap.size a cap ys ∧ Rdr w' g bs p' ∧ p' ≤ p + 2 ∧ w.grownBy w' (some g) := by
  refine Calls.mono (R := fun e w' => ∃ (ys : List Int) (a : Option Addr) (cap p' k : Nat), k = ys.length ∧ e = .returned (.slice a k cap) ∧ ys.length ≤ 17 ∧ w'.ownsRow w.heap.size 3 1 (.slice a k cap) k (ints ys) ∧ Rdr w' g bs p' ∧ p' ≤ p + 2 ∧ w.grownBy w' (some g)) ?_ (fun e w' h => by
    obtain ⟨ys, a, cap, p', k, rfl, rfl, hl, h2, h3⟩ := h
    exact ⟨ys, a, cap, p', rfl, hl, h2, h3⟩)
  have hglt := h.lt
  have HR := hid h
  have HX := hid hx
  obtain ⟨n, hn⟩ : ∃ n, n = xs.length := ⟨_, rfl⟩
  rw [← hn] at hl ⊢
  have HN := hid hn
  clear h hx hn
  go_enter Tryd.func79, Tryd.ntmps79
  go_wp2_with (at_builtin; refine wpList_append_rd rfl (.tmp 6) (.tmp 7) 34 rfl w.heap.size 3 (.int .i64 0) 8 Tryd.underlying34 Tryd.info_int rfl _ _ _ rfl (own_lit0 w w.heap.size 3 (Nat.le_refl _)) _ n cap (ints xs) rfl (HX.out.alloc _) (by rw [List.length_map]; exact HN.out.symm) (ints_oneCell xs) (by omega) (by omega) (by simp) ?_)
  intro v1 w1 hown1 hgrow1
  have hown1 : w1.ownsRow w.heap.size 3 1 v1 n (ints xs) := by first | exact hown1 | simpa using hown1
  have hg1 : w.grownBy w1 (some g) := grown_trans (grown_alloc (grown_refl w _) _) hgrow1 (fun k hk => by simp [Value.ownBlock] at hk; omega)
  have hr1 : Rdr w1 g bs p := (own_rdr_alloc HR.out _).kept hgrow1 (fun k hk => by simp [Value.ownBlock] at hk; omega)
  obtain ⟨a1, c1, rfl, hc1⟩ := own_shape hown1
  clear hgrow1
  go_wp2_with fail
  refine (pick_c _ g bs p _ hr1 (by omega) (by omega)).mono ?_
  rintro e w2 ⟨x, rfl, hx0, hx1, hr2, hg2⟩
  have hown2 := own_rdr hr1 hown1 hg2
  have hg02 : w.grownBy w2 (some g) := grown_trans hg1 hg2 (fun k hk => .inl hk.symm)
  clear hown1 hg1 hr1 hg2
  by_cases hx0 : x = 0
  · subst hx0
    go_wp2
    go_loopw [5] (fun v wr => ∃ (ys : List Int) (k : Nat), k = ys.length ∧ k ≤ 17 ∧ wr.ownsRow w.heap.size 3 1 v k (ints ys) ∧ Rdr wr g bs (p + 1) ∧ w.grownBy wr (some g)) (fun v _ => 17 - (match v with | .slice _ n _ => n | _ => 0))
    case atStart => exact ⟨xs, n, HN.out, by omega, hown2, hr2, hg02⟩
    case round =>
      clear hown2 hr2 hg02
      obtain ⟨ys, k, hk, hk17, hown, hr, hg⟩ := hrel
      have HK := hid hk
      clear hk
      obtain ⟨a2, c2, rfl, hc2⟩ := own_shape hown
      by_cases hlt : k ≤ 16
      · have hsz := hg.size
        go_wp2_with (at_builtin; refine wpList_append_one rfl (.tmp 16) (.tmp 17) 34 rfl w.heap.size 3 (.int .i64 0) 8 Tryd.underlying34 Tryd.info_int rfl _ _ _ rfl (hown.alloc _) _ (.int .i64 0) rfl (by simp) rfl (by omega) (by omega) (by simp; omega) ?_)
        intro v3 w3 hown3 hgrow3
        rw [snoc_ints] at hown3
        have hl := hown.lt
        have hr3 : Rdr w3 g bs (p + 1) := (own_rdr_alloc hr _).kept hgrow3 (fun b hb => by have := (hl b hb).1; omega)
        have hg3 : w.grownBy w3 (some g) := grown_trans (grown_alloc hg _) hgrow3 (fun b hb => .inr (hl b hb).1)
        obtain ⟨a3, c3, rfl, hc3⟩ := own_shape hown3
        clear hown hgrow3 hr hg hl
        go_wp2
        go_roundw
        case rel => exact ⟨ys ++ [0], k + 1, by rw [List.length_append, ← HK.out]; rfl, by omega, hown3, hr3, hg3⟩
        case measure => show 17 - (k + 1) < 17 - k; omega
      · go_wp2
        go_ret
        exact ⟨ys, _, _, p + 1, k, HK.out, rfl, by rw [← HK.out]; exact hk17, hown, hr, by omega, hg⟩
  · have d0 : ((x : Int) == 0) = false := by simpa using hx0
    by_cases hx1' : x = 1
    · subst hx1'
      by_cases hn0 : 0 < n
      · have hlit := rd_lit w2 [-1, 1048576, 1099511627776] 3
        have hr3 := own_rdr_alloc hr2 (.cells (ints [-1, 1048576, 1099511627776]).toArray 3)
        have hown3 := hown2.alloc (.cells (ints [-1, 1048576, 1099511627776]).toArray 3)
        have hg3 := grown_alloc hg02 (.cells (ints [-1, 1048576, 1099511627776]).toArray 3)
        have hsz := hr2.lt
        go_wp2_with fail
        refine (num_c _ g bs (p + 1) _ 3 [-1, 1048576, 1099511627776] hr3 (by omega) hlit (fun b hb => by simp [blk] at hb; omega) (by decide) (by decide)).mono ?_
        rintro e w4 ⟨y, rfl, hy, hr4, hg4⟩
        have hown4 := own_rdr hr3 hown3 hg4
        have hg04 : w.grownBy w4 (some g) := grown_trans hg3 hg4 (fun k hk => .inl hk.symm)
        clear hown3 hr3 hg3 hg4 hlit hown2 hr2 hg02
        obtain ⟨G, rfl, hG, hG'⟩ := own_some hown4 hn0
        have hcell := hown4.cellAt 0 (by omega)
        obtain ⟨x0, hx0⟩ : ∃ x0, (ints xs)[0]? = some (.int .i64 x0) := ⟨xs[0]'(by have := HN.out; omega), by
          have := HN.out
          simp [List.getElem?_eq_getElem (show 0 < xs.length by omega)]⟩
        rw [hx0] at hcell
        have hfo := hown4.frozenAt 0
        have hst := hown4.stored 0 (.int .i64 y)
        rw [ints_set] at hst
        have hr5 := hr4.set G 0 (.int .i64 y) (by omega)
        have hg5 := grown_set hg04 G 0 (.int .i64 y) hG
        have HS := hid hst
        clear hst hx0
        go_wp2
        go_ret
        exact ⟨_, _, _, _, n, by rw [List.length_set]; exact HN.out, rfl, by rw [List.length_set, ← HN.out]; omega, HS.out.1, hr5, by omega, hg5⟩
      · obtain rfl : n = 0 := by omega
        go_wp2
        go_ret
        exact ⟨xs, _, _, p + 1, 0, HN.out, rfl, by rw [← HN.out]; omega, hown2, hr2, by omega, hg02⟩
    · have d1 : ((x : Int) == 1) = false := by simpa using hx1'
      go_wp2
      go_ret
      exact ⟨xs, _, _, p + 1, n, HN.out, rfl, by rw [← HN.out]; omega, hown2, hr2, by omega, hg02⟩

end Go.Proofs.YtmeoclkngjboiaaDoor
