/-
  PROVED HERE: what the drawing of relations does: spec.l2Mutate, l2Order. CONDITIONS: as each theorem states.
-/
import Derived.Test.YtdppidhnlbfpmaaDrawRel
import Derived.Test.YtdppidhnlbfpmaaMixQ
namespace Go.Proofs.Ytdppidhnlbfpmaa
open Go.RowKit
set_option linter.unusedVariables false
set_option linter.unusedSimpArgs false

theorem ints_oneCell (xs : List Int) : ∀ u ∈ ints xs, u.oneCell' = true := by
  intro u hu
  obtain ⟨n, _, rfl⟩ := List.mem_map.1 hu
  rfl
theorem ints_set (xs : List Int) (i : Nat) (x : Int) : (ints xs).set i (.int .i64 x) = ints (xs.set i x) := by simp [ints]
theorem grown_set {w wr : World} {row : Option Nat} (h : w.grownBy wr row) (b i : Nat) (v : Value) (hb : w.heap.size ≤ b) : w.grownBy (wr.setCell ⟨b, i, none⟩ v) row :=
  grown_trans h (row2 := some b) ⟨rfl, rfl, rfl, by simp, fun k _ hk => heap_setCell_other wr ⟨b, i, none⟩ k _ (fun e => hk (by simp [e]))⟩ (fun k hk => by cases hk; exact .inr hb)
theorem Rdr.set {w : World} {g : Nat} {bs : List Int} {p : Nat} (h : Rdr w g bs p) (b i : Nat) (v : Value) (hb : g < b) : Rdr (w.setCell ⟨b, i, none⟩ v) g bs p :=
  h.kept (row := some b) ⟨rfl, rfl, rfl, by simp, fun k _ hk => heap_setCell_other w ⟨b, i, none⟩ k _ (fun e => hk (by simp [e]))⟩ (fun k hk => by cases hk; exact hb)

theorem own_up {w : World} {base base' e size n : Nat} {v : Value} {cs : List Value} (h : w.ownsRow base e size v n cs) (hb : base' ≤ base) : w.ownsRow base' e size v n cs := by
  refine ⟨h.1, h.2.imp id ?_⟩
  rintro ⟨g, cap, cur, hv, hg, r⟩
  exact ⟨g, cap, cur, hv, Nat.le_trans hb hg, r⟩

set_option maxHeartbeats 1600000 in
theorem l2Mutate_c (w : World) (g : Nat) (bs : List Int) (p : Nat) (a : Option Addr) (cap : Nat) (xs : List Int) (h : Rdr w g bs p) (hp : p ≤ 900000) (hx : Rd w a (ints xs)) (hl : xs.length ≤ 16) :
    Calls Try.prog 64 #[.pointer (some ⟨g, 0, none⟩), .slice a xs.length cap] w fun e w' => ∃ (ys : List Int) (a : Option Addr) (cap p' : Nat), e = .returned (.slice a ys.length cap) ∧ ys.length ≤ 17 ∧ OwI w' w.heap.size a cap ys ∧ Rdr w' g bs p' ∧ p' ≤ p + 2 ∧ w.grownBy w' (some g) := by
  refine Calls.mono (R := fun e w' => ∃ (ys : List Int) (a : Option Addr) (cap p' k : Nat), k = ys.length ∧ e = .returned (.slice a k cap) ∧ ys.length ≤ 17 ∧ w'.ownsRow w.heap.size 3 1 (.slice a k cap) k (ints ys) ∧ Rdr w' g bs p' ∧ p' ≤ p + 2 ∧ w.grownBy w' (some g)) ?_ (fun e w' h => by
    obtain ⟨ys, a, cap, p', k, rfl, rfl, hl, h2, h3⟩ := h
    exact ⟨ys, a, cap, p', rfl, hl, h2, h3⟩)
  have hglt := h.lt
  have HR := hid h
  have HX := hid hx
  obtain ⟨n, hn⟩ : ∃ n, n = xs.length := ⟨_, rfl⟩
  rw [← hn] at hl ⊢
  have HN := hid hn
  clear h hx hn
  go_enter Try.func64, Try.ntmps64
  go_wp2_with (at_builtin; refine wpList_append_rd rfl (.tmp 6) (.tmp 7) 23 rfl w.heap.size 3 (.int .i64 0) 8 Try.underlying23 Try.info_int rfl _ _ _ rfl (own_lit0 w w.heap.size 3 (Nat.le_refl _)) _ n cap (ints xs) rfl (HX.out.alloc _) (by rw [List.length_map]; exact HN.out.symm) (ints_oneCell xs) (by omega) (by omega) (by simp) ?_)
  intro v1 w1 hown1 hgrow1
  have hown1 : w1.ownsRow w.heap.size 3 1 v1 n (ints xs) := by first | exact hown1 | simpa using hown1
  have hg1 : w.grownBy w1 (some g) := grown_trans (grown_alloc (grown_refl w _) _) hgrow1 (fun k hk => by simp [Value.ownBlock] at hk; omega)
  have hr1 : Rdr w1 g bs p := (own_rdr_alloc HR.out _).kept hgrow1 (fun k hk => by simp [Value.ownBlock] at hk; omega)
  obtain ⟨a1, c1, rfl, hc1⟩ := own_shape hown1
  clear hgrow1
  go_wp2_with fail
  refine (pick_c _ g bs p _ hr1 (by omega) (by omega)).mono ?_
  rintro e w2 ⟨x, rfl, hx0, hx1, hr2, hg2⟩
  have hown2 := own_rdr hr1 hown1 hg2
  have hg02 : w.grownBy w2 (some g) := grown_trans hg1 hg2 (fun k hk => .inl hk.symm)
  clear hown1 hg1 hr1 hg2
  by_cases hx0 : x = 0
  · subst hx0
    go_wp2
    go_loopw [5] (fun v wr => ∃ (ys : List Int) (k : Nat), k = ys.length ∧ k ≤ 17 ∧ wr.ownsRow w.heap.size 3 1 v k (ints ys) ∧ Rdr wr g bs (p + 1) ∧ w.grownBy wr (some g)) (fun v _ => 17 - (match v with | .slice _ n _ => n | _ => 0))
    case atStart => exact ⟨xs, n, HN.out, by omega, hown2, hr2, hg02⟩
    case round =>
      clear hown2 hr2 hg02
      obtain ⟨ys, k, hk, hk17, hown, hr, hg⟩ := hrel
      have HK := hid hk
      clear hk
      obtain ⟨a2, c2, rfl, hc2⟩ := own_shape hown
      by_cases hlt : k ≤ 16
      · have hsz := hg.size
        go_wp2_with (at_builtin; refine wpList_append_one rfl (.tmp 16) (.tmp 17) 23 rfl w.heap.size 3 (.int .i64 0) 8 Try.underlying23 Try.info_int rfl _ _ _ rfl (hown.alloc _) _ (.int .i64 0) rfl (by simp) rfl (by omega) (by omega) (by simp; omega) ?_)
        intro v3 w3 hown3 hgrow3
        rw [snoc_ints] at hown3
        have hl := hown.lt
        have hr3 : Rdr w3 g bs (p + 1) := (own_rdr_alloc hr _).kept hgrow3 (fun b hb => by have := (hl b hb).1; omega)
        have hg3 : w.grownBy w3 (some g) := grown_trans (grown_alloc hg _) hgrow3 (fun b hb => .inr (hl b hb).1)
        obtain ⟨a3, c3, rfl, hc3⟩ := own_shape hown3
        clear hown hgrow3 hr hg hl
        go_wp2
        go_roundw
        case rel => exact ⟨ys ++ [0], k + 1, by rw [List.length_append, ← HK.out]; rfl, by omega, hown3, hr3, hg3⟩
        case measure => show 17 - (k + 1) < 17 - k; omega
      · go_wp2
        go_ret
        exact ⟨ys, _, _, p + 1, k, HK.out, rfl, by rw [← HK.out]; exact hk17, hown, hr, by omega, hg⟩
  · have d0 : ((x : Int) == 0) = false := by simpa using hx0
    by_cases hx1' : x = 1
    · subst hx1'
      by_cases hn0 : 0 < n
      · have hlit := rd_lit w2 [-1, 1048576, 1099511627776] 3
        have hr3 := own_rdr_alloc hr2 (.cells (ints [-1, 1048576, 1099511627776]).toArray 3)
        have hown3 := hown2.alloc (.cells (ints [-1, 1048576, 1099511627776]).toArray 3)
        have hg3 := grown_alloc hg02 (.cells (ints [-1, 1048576, 1099511627776]).toArray 3)
        have hsz := hr2.lt
        go_wp2_with fail
        refine (num_c _ g bs (p + 1) _ 3 [-1, 1048576, 1099511627776] hr3 (by omega) hlit (fun b hb => by simp [blk] at hb; omega) (by decide) (by decide)).mono ?_
        rintro e w4 ⟨y, rfl, hy, hr4, hg4⟩
        have hown4 := own_rdr hr3 hown3 hg4
        have hg04 : w.grownBy w4 (some g) := grown_trans hg3 hg4 (fun k hk => .inl hk.symm)
        clear hown3 hr3 hg3 hg4 hlit hown2 hr2 hg02
        obtain ⟨G, rfl, hG, hG'⟩ := own_some hown4 hn0
        have hcell := hown4.cellAt 0 (by omega)
        obtain ⟨x0, hx0⟩ : ∃ x0, (ints xs)[0]? = some (.int .i64 x0) := ⟨xs[0]'(by have := HN.out; omega), by
          have := HN.out
          simp [List.getElem?_eq_getElem (show 0 < xs.length by omega)]⟩
        rw [hx0] at hcell
        have hfo := hown4.frozenAt 0
        have hst := hown4.stored 0 (.int .i64 y)
        rw [ints_set] at hst
        have hr5 := hr4.set G 0 (.int .i64 y) (by omega)
        have hg5 := grown_set hg04 G 0 (.int .i64 y) hG
        have HS := hid hst
        clear hst hx0
        go_wp2
        go_ret
        exact ⟨_, _, _, _, n, by rw [List.length_set]; exact HN.out, rfl, by rw [List.length_set, ← HN.out]; omega, HS.out.1, hr5, by omega, hg5⟩
      · obtain rfl : n = 0 := by omega
        go_wp2
        go_ret
        exact ⟨xs, _, _, p + 1, 0, HN.out, rfl, by rw [← HN.out]; omega, hown2, hr2, by omega, hg02⟩
    · have d1 : ((x : Int) == 1) = false := by simpa using hx1'
      go_wp2
      go_ret
      exact ⟨xs, _, _, p + 1, n, HN.out, rfl, by rw [← HN.out]; omega, hown2, hr2, by omega, hg02⟩

set_option maxHeartbeats 1600000 in
theorem l2Order_c (w : World) (a : Option Addr) (cap : Nat) (bs : List Int) (h : Rd w a (bytes bs)) (hwf : ∀ x ∈ bs, 0 ≤ x ∧ x ≤ 255) (hl : bs.length ≤ 1048576) (hcap : bs.length ≤ cap) (hcm : cap ≤ 9223372036854775807) :
    Calls Try.prog 67 #[.slice a bs.length cap] w fun e w' => ∃ ys : List Int, RetI w ys e w' ∧ ys.length ≤ 17 := by
  have CO := hid (open_c w a cap bs h hwf hl hcap hcm)
  have CF := hid (fun (w : World) (n : Nat) (h : n ≤ 16) => l2Full_c w n h)
  obtain ⟨N, hN⟩ : ∃ N, N = bs.length := ⟨_, rfl⟩
  rw [← hN] at CO ⊢
  clear h hwf hl hcap hcm hN
  go_enter Try.func67, Try.ntmps67
  go_wp2_with fail
  refine CO.out.mono ?_
  rintro e w1 ⟨bs', rfl, hr1, hb1⟩
  have hlt1 := hr1.lt
  go_wp2_with fail
  refine (l2Size_c w1 _ bs' 0 hr1 (by omega)).mono ?_
  rintro e w2 ⟨n, rfl, hn, hr2, hg2⟩
  have hb2 := below_rdr hb1 hg2 (Nat.le_refl _) hb1.size
  have hs2 := hb2.size
  have hlt2 := hr2.lt
  go_wp2_with fail
  refine (l2Draw_c w2 _ bs' 1 n hr2 (by omega) (by omega)).mono ?_
  rintro e w3 ⟨ys, a3, c3, p3, rfl, hyl, hown3, hr3, hp3, hg3⟩
  have hb3 := below_rdr hb2 hg3 (Nat.le_refl _) hs2
  unfold OwI at hown3
  rw [hyl] at hown3
  rw [hyl]
  have HY := hid hyl
  clear hyl hr1 hr2 hg2 hg3 hb1 hb2
  go_wp2
  go_loopw [5] (fun i wr => ∃ (k : Nat) (ys : List Int) (q : Nat), ys.length = n ∧ k ≤ n ∧ i = .int .i64 k ∧ wr.ownsRow w2.heap.size 3 1 (.slice a3 n c3) n (ints ys) ∧ Rdr wr w.heap.size bs' q ∧ q ≤ 65 + k ∧ Below w.heap.size w wr) (fun i _ => n - (intOf i).toNat)
  case atStart => exact ⟨0, ys, p3, HY.out, Nat.zero_le _, rfl, hown3, hr3, by omega, hb3⟩
  case round =>
    clear hown3 hr3 hb3 HY
    obtain ⟨k, ys, q, hyl, hk, rfl, hown, hr, hq, hb⟩ := hrel
    have HY := hid hyl
    clear hyl
    have fin : ∀ (wr : World) (ys : List Int) (q : Nat), ys.length = n → wr.ownsRow w2.heap.size 3 1 (.slice a3 n c3) n (ints ys) → Rdr wr w.heap.size bs' q → q ≤ 100 → Below w.heap.size w wr →
        Calls Try.prog 64 #[.pointer (some ⟨w.heap.size, 0, none⟩), .slice a3 n c3] wr fun e w' => ∃ ys : List Int, RetI w ys e w' ∧ ys.length ≤ 17 := by
      intro wr ys q hyl hown hr hq hb
      have hh := hb.size
      subst hyl
      refine (l2Mutate_c wr _ bs' q a3 c3 ys hr (by omega) (Rd.own hown) (by omega)).mono ?_
      rintro e w5 ⟨zs, a5, c5, p5, rfl, hzl, hown5, hr5, hp5, hg5⟩
      exact ⟨zs, ⟨a5, c5, rfl, own_up hown5 hh, below_rdr hb hg5 (Nat.le_refl _) hh⟩, hzl⟩
    have FIN := hid fin
    clear fin
    by_cases hlt : k < n
    · go_wp2_with fail
      refine (pick_c wr _ bs' q 2 hr (by omega) (by omega)).mono ?_
      rintro e w4 ⟨x, rfl, hx0, hx1, hr4, hg4⟩
      have hown4 := own_rdr hr hown hg4
      have hb4 := below_rdr hb hg4 (Nat.le_refl _) hb.size
      clear hown hr hb hg4
      by_cases hx : x = 0
      · subst hx
        obtain ⟨G, rfl, hG, hG'⟩ := own_some hown4 (by omega)
        obtain ⟨x0, hx0⟩ : ∃ x0, (ints ys)[k]? = some (.int .i64 x0) := ⟨ys[k]'(by have := HY.out; omega), by
          have := HY.out
          simp [List.getElem?_eq_getElem (show k < ys.length by omega)]⟩
        have hcell := hown4.cellAt k (by omega)
        rw [hx0] at hcell
        have hfo := hown4.frozenAt k
        have hk1 : wrap64 ((k : Int) + 1) = ((k + 1 : Nat) : Int) := by rw [IntWalk.wrap64_in ((k : Int) + 1) (by omega)]; omega
        obtain ⟨v, hv⟩ : ∃ v, v = bits .andNot .i64 x0 ((2 : Int) ^ (k + 1) - 1) := ⟨_, rfl⟩
        obtain ⟨m1, hm1⟩ : ∃ m1, m1 = (2 : Int) ^ (k + 1) - 1 := ⟨_, rfl⟩
        have CF1 := fun w => CF.out w (k + 1) (by omega)
        rw [← hm1] at CF1 hv
        rw [show ((k + 1 : Nat) : Int) = (k : Int) + 1 from rfl] at CF1
        have hst := hown4.stored k (.int .i64 v)
        rw [ints_set] at hst
        have hr5 := hr4.set G k (.int .i64 v) (by omega)
        have HS := hid hst
        have hcf := run_callFunc (f := 62) Try.func62 rfl rfl #[.int .i64 ((k : Int) + 1)]
        clear hst hx0 hm1
        go_wp2_with fail
        refine MQ.wp_region_mix (q := [62]) (by kernel_rfl) (by kernel_rfl) ?_
        go_wp2_with (first | (with_reducible refine MQ.wpMix_nil ?_) | (with_reducible refine MQ.wpMix_rd rfl rfl rfl (fun K hK => ?_); go_simp; (try go_bits); refine hK _ ?_; clear hK K))
        refine MQ.wpMix_call rfl 62 _ _ rfl rfl #[.int .i64 ((k : Int) + 1)] (by simp [Act.eval]) (hcf _) (.int .i64 m1) (CF1 _) ?_
        go_wp2_with (first | (with_reducible refine MQ.wpMix_nil ?_) | (with_reducible refine MQ.wpMix_rd rfl rfl rfl (fun K hK => ?_); go_simp; (try go_bits); refine hK _ ?_; clear hK K) | (with_reducible refine MQ.wpMix_act (o := ⟨_, .store _ _ _, _, _, _, _⟩) rfl rfl (fun K hK => ?_)))
        rw [← hv]
        go_roundw
        case rel =>
          refine ⟨k + 1, ys.set k v, q + 1, by rw [List.length_set]; exact HY.out, by omega, by go_num, ?_, ?_, by omega, ?_⟩
          · exact HS.out.1
          · exact hr5.kept (grown_drewN (grown_refl _ none) 1) (fun k hk => by cases hk)
          · exact below_drewN 1 (hb4.setCell (show w.heap.size ≤ G by omega) _)
        case measure => simp [intOf]; omega
      · have d0 : ((x : Int) == 0) = false := by simpa using hx
        go_wp2_with fail
        refine (FIN.out w4 ys (q + 1) HY.out hown4 hr4 (by omega) hb4).mono ?_
        rintro e w5 ⟨zs, ⟨a5, c5, rfl, hown5, hb5⟩, hzl⟩
        go_wp2
        go_ret
        exact ⟨zs, ⟨a5, c5, rfl, hown5, hb5⟩, hzl⟩
    · go_wp2_with fail
      refine (FIN.out wr ys q HY.out hown hr (by omega) hb).mono ?_
      rintro e w5 ⟨zs, ⟨a5, c5, rfl, hown5, hb5⟩, hzl⟩
      go_wp2
      go_ret
      exact ⟨zs, ⟨a5, c5, rfl, hown5, hb5⟩, hzl⟩
end Go.Proofs.Ytdppidhnlbfpmaa
