/-
  PROVED HERE: what UnionRel, MeetRel and MinusRel of both packages do. CONDITIONS: as each theorem states.
-/
import Derived.Test.YtdppidhnlbfpmaaRelB
namespace Go.Proofs.Ytdppidhnlbfpmaa
open Go.RowKit
set_option linter.unusedVariables false
set_option linter.unusedSimpArgs false

/-- The call hands back a slice of its own with these numbers, and leaves what was there. -/
def RetN (w : World) (ns : List Nat) (e : Ending) (w' : World) : Prop :=
  ∃ a cap, e = .returned (.slice a ns.length cap) ∧ w'.ownsRow w.heap.size 3 1 (.slice a ns.length cap) ns.length (natV ns) ∧ Below w.heap.size w w'
def RetI (w : World) (xs : List Int) (e : Ending) (w' : World) : Prop :=
  ∃ a cap, e = .returned (.slice a xs.length cap) ∧ OwI w' w.heap.size a cap xs ∧ Below w.heap.size w w'
theorem RetN.castI {w w' : World} {ns : List Nat} {e : Ending} (h : RetN w ns e w') : RetI w (castI ns) e w' := by
  obtain ⟨a, cap, rfl, h1, h2⟩ := h
  refine ⟨a, cap, by rw [length_castI], ?_, h2⟩
  unfold OwI
  rw [length_castI, ints_castI]
  exact h1
theorem RetN.after {w w1 w' : World} {ns : List Nat} {e : Ending} (h : RetN w1 ns e w') (hb : Below w.heap.size w w1) : RetN w ns e w' := by
  obtain ⟨a, cap, rfl, h1, h2⟩ := h
  refine ⟨a, cap, rfl, ⟨h1.1, h1.2.imp id ?_⟩, hb.trans (h2.mono hb.size)⟩
  rintro ⟨g, c, cur, hv, hg, r⟩
  exact ⟨g, c, cur, hv, Nat.le_trans hb.size hg, r⟩
theorem RetI.after {w w1 w' : World} {xs : List Int} {e : Ending} (h : RetI w1 xs e w') (hb : Below w.heap.size w w1) : RetI w xs e w' := by
  obtain ⟨a, cap, rfl, h1, h2⟩ := h
  refine ⟨a, cap, rfl, ⟨h1.1, h1.2.imp id ?_⟩, hb.trans (h2.mono hb.size)⟩
  rintro ⟨g, c, cur, hv, hg, r⟩
  exact ⟨g, c, cur, hv, Nat.le_trans hb.size hg, r⟩
theorem own_after {w w1 w' : World} {e size n : Nat} {v : Value} {cs : List Value} (h1 : w'.ownsRow w1.heap.size e size v n cs) (hb : Below w.heap.size w w1) : w'.ownsRow w.heap.size e size v n cs := by
  refine ⟨h1.1, h1.2.imp id ?_⟩
  rintro ⟨g, c, cur, hv, hg, r⟩
  exact ⟨g, c, cur, hv, Nat.le_trans hb.size hg, r⟩
theorem own_none (w : World) (base e size : Nat) : w.ownsRow base e size (.slice none 0 0) 0 [] := World.ownsRow_nil w base e size
theorem own_lit0 (w : World) (base e : Nat) (h : base ≤ w.heap.size) : (w.alloc (.cells #[] e)).ownsRow base e 1 (.slice (some ⟨w.heap.size, 0, none⟩) 0 0) 0 [] :=
  World.ownsRow_made w #[] 0 h (by decide) rfl

theorem set_nat {ns : List Nat} {k n x : Nat} (hn : ns.length = n) (hx : ns[k]? = some x) : (natV (ns.take k ++ List.replicate (n - k) 0)).set k (.int .i64 x) = natV (ns.take (k + 1) ++ List.replicate (n - (k + 1)) 0) := by
  obtain ⟨hk, rfl⟩ := List.getElem?_eq_some_iff.1 hx
  rw [show n - k = (n - (k + 1)) + 1 by omega, List.take_succ_eq_append_getElem hk]
  simp only [natV, List.replicate_succ, List.map_append, List.map_cons, List.map_nil, List.append_assoc, List.cons_append, List.nil_append]
  rw [List.set_append_right _ _ (by simp; omega)]
  simp [show k - min k ns.length = 0 by omega]
theorem zero_nat (ns : List Nat) (k n : Nat) (hn : ns.length = n) (hk : k < n) : (natV (ns.take k ++ List.replicate (n - k) 0))[k]? = some (.int .i64 ((0 : Nat) : Int)) := by
  rw [show n - k = (n - (k + 1)) + 1 by omega]
  simp [natV, List.getElem?_append, hn, show ¬ k < min k n by omega, show k - min k n = 0 by omega]

theorem length_lift2 {f : List Nat → List Nat → List Nat} (hf : ∀ us vs : List Nat, us.length = vs.length → (f us vs).length ≤ us.length) (xs ys : List Int) : (lift2 f xs ys).length ≤ 1048576 := by
  unfold lift2
  split
  · rename_i h
    obtain ⟨us, vs, rfl, rfl, ha, hb, hl⟩ := ok_of_fit h
    rw [toNat_castI, toNat_castI, length_castI]
    have := hf us vs hl
    have := ha.len
    omega
  · simp
theorem length_lift1 {f : List Nat → List Nat} (hf : ∀ us : List Nat, Ok us → (f us).length ≤ us.length) (xs : List Int) : (lift1 f xs).length ≤ 1048576 := by
  unfold lift1
  split
  · rename_i h
    obtain ⟨us, rfl, ha⟩ := ok_of_valid h
    rw [toNat_castI, length_castI]
    have := hf us ha
    have := ha.len
    omega
  · simp

theorem length_zip (f : Nat → Nat → Nat) (us vs : List Nat) (h : vs.length = us.length) : (List.zipWith f us vs).length = us.length := by simp [h]

set_option maxHeartbeats 400000 in
theorem combined_c (w : World) (f : Nat) (g : Nat → Nat → Nat) (a a' : Option Addr) (cap cap' : Nat) (us vs : List Nat) (h : Rd w a (natV us)) (h' : Rd w a' (natV vs)) (ha : Ok us) (hb : Ok vs) (hl : vs.length = us.length)
    (hcf : ∀ args (w : World), (callFunc f args).run Try.prog w = .ok (.enter f args) w)
    (hf : ∀ (w : World) (x y : Nat), x < 65536 → y < 65536 → Calls Try.prog f #[.int .i64 x, .int .i64 y] w fun e w' => e = .returned (.int .i64 (g x y : Nat)) ∧ w = w') :
    Calls Try.prog 53 #[.slice a us.length cap, .slice a' us.length cap', .func (.func f) #[] #[]] w (RetN w (List.zipWith g us vs)) := by
  obtain ⟨n, hn⟩ : ∃ n, us.length = n := ⟨_, rfl⟩
  have hlen := ha.len
  have C1 := hid (areRels_c w a a' cap cap' (castI us) (castI vs) (by rw [ints_castI]; exact h) (by rw [ints_castI]; exact h') (by rw [length_castI]; omega) (by rw [length_castI]; omega))
  rw [fit_castI ha hb hl.symm, length_castI, length_castI, hl] at C1
  have HP := hid (fun e w' (h : ∃ a cap, e = .returned (.slice a n cap) ∧ w'.ownsRow w.heap.size 3 1 (.slice a n cap) n (natV (List.zipWith g us vs)) ∧ Below w.heap.size w w') => (show RetN w (List.zipWith g us vs) e w' by unfold RetN; rw [length_zip g us vs hl, hn]; exact h))
  rw [hn] at hl hlen C1 ⊢
  have HN := hid (show us.length = n ∧ vs.length = n ∧ (List.zipWith g us vs).length = n from ⟨hn, hl, by simp [hn, hl]⟩)
  have HF := hid hf
  clear hn hl hf
  obtain ⟨i0, hi, hz0, hz1, hz2⟩ := info_parts Try.info_int
  refine Calls.mono (R := fun e w' => ∃ a cap, e = .returned (.slice a n cap) ∧ w'.ownsRow w.heap.size 3 1 (.slice a n cap) n (natV (List.zipWith g us vs)) ∧ Below w.heap.size w w') ?_ (fun e w' h => HP.out e w' h)
  clear HP
  go_enter Try.func53, Try.ntmps53
  go_wp2_with fail
  refine C1.out.mono ?_
  rintro e w1 ⟨rfl, hb1⟩
  go_wp2_with (at_make; refine wpList_make_full _ rfl _ _ 23 rfl w.heap.size 3 i0 (.int .i64 0) 1 Try.underlying23 hi hz0 hz1 .i64 .i64 _ _ n rfl rfl rfl rfl (by rw [hz2]; omega) (by unfold maxLen; omega) hb1.size ?_; intro w2 hown hgrow)
  go_loopw [18] (fun i wr => ∃ k : Nat, k ≤ n ∧ i = .int .i64 k ∧ wr.ownsRow w.heap.size 3 1 (.slice (some ⟨w1.heap.size, 0, none⟩) n n) n (natV ((List.zipWith g us vs).take k ++ List.replicate (n - k) 0)) ∧ Below w.heap.size w wr) (fun i _ => n - (intOf i).toNat)
  case atStart => exact ⟨0, Nat.zero_le _, rfl, by simpa [toList_madeCells_one, Value.cells, natV] using hown, hb1.grown hgrow hb1.size (by simp)⟩
  case round =>
    obtain ⟨k, hk, rfl, hown, hbel⟩ := hrel
    by_cases hlt : k < n
    · obtain ⟨b, off, x, rfl, hbx, hx, hc⟩ := h.nat k (by rw [HN.out.1]; exact hlt)
      obtain ⟨b', off', y, rfl, hby, hy, hc'⟩ := h'.nat k (by rw [HN.out.2.1]; exact hlt)
      have hcx := (hbel.cell (p := ⟨b, off + k, none⟩) hbx).trans hc
      have hcx' := (hbel.cell (p := ⟨b', off' + k, none⟩) hby).trans hc'
      have hlt' : (k : Int) < n := by omega
      have hfo := hown.frozenAt k
      have hst := hown.stored k (.int .i64 (g x y : Nat))
      rw [set_nat HN.out.2.2 (zip_at hx hy)] at hst
      have hsz := (hown.cellAt k (by omega)).trans (zero_nat _ k n HN.out.2.2 hlt)
      have HS := hid hst
      have C2 := hid (fun w => HF.out w x y (ha.at? hx) (hb.at? hy))
      clear hc hc' hst hown hgrow hi hz0 hz1 hz2 h h' hx hy
      go_wp2_with fail
      refine wp_region_mix (by kernel_rfl) (by kernel_rfl) ?_
      go_wp2_with (first | (with_reducible refine wpMix_rd rfl rfl (fun K hK => ?_); go_simp; (try go_bits); refine hK _ ?_; clear hK K) | (with_reducible refine wpMix_act (o := ⟨_, .call _, _, _, _, _⟩) rfl rfl (fun K hK => ?_)))
      refine (C2.out _).mono ?_
      rintro e w3 ⟨rfl, rfl⟩
      go_wp2_with (first | (with_reducible refine wpMix_nil ?_) | (with_reducible refine wpMix_rd rfl rfl (fun K hK => ?_); go_simp; (try go_bits); refine hK _ ?_; clear hK K) | (with_reducible refine wpMix_act (o := ⟨_, .store _ _ _, _, _, _, _⟩) rfl rfl (fun K hK => ?_)))
      go_roundw
      case rel => exact ⟨k + 1, by omega, by go_num, HS.out.1, hbel.drew.setCell hb1.size _⟩
      case measure => simp [intOf]; omega
    · go_wp2
      go_ret
      obtain rfl : k = n := by omega
      refine ⟨_, _, rfl, ?_, hbel⟩
      simpa [List.take_of_length_le (Nat.le_of_eq HN.out.2.2)] using hown

theorem combinedNo_c (w : World) (f : Nat) (a a' : Option Addr) (cap cap' : Nat) (xs ys : List Int) (h : Rd w a (ints xs)) (h' : Rd w a' (ints ys)) (hl : xs.length ≤ 1048576) (hl' : ys.length ≤ 1048576) (hno : fitB xs ys = false) :
    Calls Try.prog 53 #[.slice a xs.length cap, .slice a' ys.length cap', .func (.func f) #[] #[]] w (RetI w []) := by
  have C1 := hid (areRels_c w a a' cap cap' xs ys h h' hl hl')
  rw [hno] at C1
  refine Calls.mono (R := fun e w' => e = .returned (.slice none 0 0) ∧ Below w.heap.size w w') ?_ (fun e w' h => ⟨none, 0, h.1, own_none _ _ _ _, h.2⟩)
  go_enter Try.func53, Try.ntmps53
  go_wp2_with fail
  refine C1.out.mono ?_
  rintro e w1 ⟨rfl, hb1⟩
  go_wp2
  go_ret
  exact ⟨rfl, hb1⟩

theorem l2Union_c (w : World) (a a' : Option Addr) (cap cap' : Nat) (us vs : List Nat) (h : Rd w a (natV us)) (h' : Rd w a' (natV vs)) (ha : Ok us) (hb : Ok vs) (hl : vs.length = us.length) :
    Calls Try.prog 76 #[.slice a us.length cap, .slice a' us.length cap'] w (RetN w (unionN us vs)) := by
  obtain ⟨n, hn⟩ : ∃ n, us.length = n := ⟨_, rfl⟩
  have hlen := ha.len
  have hm : (unionN us vs).length = n := by simp [unionN, hl, hn]
  have HP := hid (fun e w' (h : ∃ a cap, e = .returned (.slice a n cap) ∧ w'.ownsRow w.heap.size 3 1 (.slice a n cap) n (natV (unionN us vs)) ∧ Below w.heap.size w w') => (show RetN w (unionN us vs) e w' by unfold RetN; rw [hm]; exact h))
  rw [hn] at hl hlen ⊢
  have HN := hid (show us.length = n ∧ vs.length = n ∧ (unionN us vs).length = n from ⟨hn, hl, hm⟩)
  clear hn hm hl
  refine Calls.mono (R := fun e w' => ∃ a cap, e = .returned (.slice a n cap) ∧ w'.ownsRow w.heap.size 3 1 (.slice a n cap) n (natV (unionN us vs)) ∧ Below w.heap.size w w') ?_ (fun e w' h => HP.out e w' h)
  clear HP
  go_enter Try.func76, Try.ntmps76
  go_wp2
  go_loopw [5, 6] (fun v i wr => ∃ k : Nat, k ≤ n ∧ i = .int .i64 k ∧ wr.ownsRow w.heap.size 3 1 v k (natV ((unionN us vs).take k)) ∧ Below w.heap.size w wr) (fun _ i _ => n - (intOf i).toNat)
  case atStart => exact ⟨0, Nat.zero_le _, rfl, by simpa [natV] using own_lit0 w w.heap.size 3 (Nat.le_refl _), (Below.refl _ _).alloc (Nat.le_refl _) _⟩
  case round =>
    obtain ⟨k, hk, rfl, hown, hbel⟩ := hrel
    by_cases hlt : k < n
    · obtain ⟨b, off, x, rfl, hb1, hx, hc⟩ := h.nat k (by rw [HN.out.1]; exact hlt)
      obtain ⟨b', off', y, rfl, hb', hy, hc'⟩ := h'.nat k (by rw [HN.out.2.1]; exact hlt)
      have hcx := (hbel.cell (p := ⟨b, off + k, none⟩) hb1).trans hc
      have hcx' := (hbel.cell (p := ⟨b', off' + k, none⟩) hb').trans hc'
      have hlt' : (k : Int) < n := by omega
      have hbit := bits_or_i64 x y (ha.at? hx) (hb.at? hy)
      have HT := hid (show natV ((unionN us vs).take k) ++ [Value.int .i64 (x ||| y : Nat)] = natV ((unionN us vs).take (k + 1)) from take_natV (zip_at hx hy))
      clear hc hc' h h' hx hy
      go_wp2_with fail
      refine wp_region_mix (by kernel_rfl) (by kernel_rfl) ?_
      go_wp2_with (first | (with_reducible refine wpMix_rd rfl rfl (fun K hK => ?_); go_simp; (try go_bits); refine hK _ ?_; clear hK K) | (with_reducible refine wpMix_act (o := ⟨_, .buildSlice _ _ _, _, _, _, _⟩) rfl rfl (fun K hK => ?_)))
      refine wpMix_append_one rfl (.tmp 14) (.tmp 24) 23 rfl w.heap.size 3 (.int .i64 0) 8 Try.underlying23 Try.info_int rfl _ _ _ rfl (hown.drew.alloc _) _ (.int .i64 (x ||| y : Nat)) rfl (by simp) rfl (by omega) (by omega) (by have := hbel.size; simp; omega) ?_
      intro v1 w1 hown1 hgrow1
      rw [HT.out] at hown1
      have hbel1 := (hbel.drew.alloc hbel.size _).grown hgrow1 (by simp; have := hbel.size; omega) (fun b hb => (hown.lt b hb).1)
      clear hcx hcx' hbit hown hgrow1
      go_wp2_with (first | (with_reducible refine wpMix_nil ?_) | (with_reducible refine wpMix_rd rfl rfl (fun K hK => ?_); go_simp; (try go_bits); refine hK _ ?_; clear hK K))
      go_roundw
      case rel => exact ⟨k + 1, by omega, by go_num, hown1, hbel1⟩
      case measure => simp [intOf]; omega
    · obtain ⟨a1, cap1, rfl, _⟩ := own_shape hown
      go_wp2
      go_ret
      obtain rfl : k = n := by omega
      rw [List.take_of_length_le (Nat.le_of_eq HN.out.2.2)] at hown
      exact ⟨_, _, rfl, hown, hbel⟩

theorem specUnion_c (w : World) (a a' : Option Addr) (cap cap' : Nat) (xs ys : List Int) (h : Rd w a (ints xs)) (h' : Rd w a' (ints ys)) (hl : xs.length ≤ 1048576) (hl' : ys.length ≤ 1048576) :
    Calls Try.prog 42 #[.slice a xs.length cap, .slice a' ys.length cap'] w (RetI w (lift2 unionN xs ys)) := by
  have C1 := hid (l2Fit_c w a a' cap cap' xs ys h h' hl hl')
  by_cases hfit : fitB xs ys = true
  · rw [hfit] at C1
    obtain ⟨us, vs, rfl, rfl, ha, hb, hlen⟩ := ok_of_fit hfit
    rw [lift2_yes ha hb hlen]
    rw [ints_castI] at h h'
    rw [length_castI, length_castI, ← hlen] at C1 ⊢
    have C2 := hid (fun w h h' => l2Union_c w a a' cap cap' us vs h h' ha hb hlen.symm)
    have H1 := hid h
    have H2 := hid h'
    refine Calls.mono (R := RetN w (unionN us vs)) ?_ (fun e w' h => h.castI)
    clear h h' hfit hlen
    go_enter Try.func42, Try.ntmps42
    go_wp2_with fail
    refine C1.out.mono ?_
    rintro e w1 ⟨rfl, hb1⟩
    go_wp2_with fail
    refine (C2.out _ (H1.out.below hb1) (H2.out.below hb1)).mono ?_
    rintro e w2 ⟨a2, cap2, rfl, hown2, hb2⟩
    go_wp2
    go_ret
    exact ⟨a2, cap2, rfl, own_after hown2 hb1, hb1.trans (hb2.mono hb1.size)⟩
  · have hfit : fitB xs ys = false := by simpa using hfit
    rw [hfit] at C1
    rw [lift2_no hfit]
    refine Calls.mono (R := fun e w' => ∃ w1, e = .returned (.slice (some ⟨w1.heap.size, 0, none⟩) 0 0) ∧ w' = w1.alloc (.cells #[] 3) ∧ Below w.heap.size w w1) ?_ (fun e w' h => by
      obtain ⟨w1, rfl, rfl, hb⟩ := h
      exact ⟨_, _, rfl, own_lit0 w1 w.heap.size _ hb.size, hb.alloc hb.size _⟩)
    clear hfit
    go_enter Try.func42, Try.ntmps42
    go_wp2_with fail
    refine C1.out.mono ?_
    rintro e w1 ⟨rfl, hb1⟩
    go_wp2
    go_ret
    exact ⟨w1, rfl, rfl, hb1⟩

theorem fnUnion_c (w : World) (x y : Nat) (hx : x < 65536) (hy : y < 65536) :
    Calls Try.prog 59 #[.int .i64 x, .int .i64 y] w fun e w' => e = .returned (.int .i64 (x ||| y : Nat)) ∧ w = w' := by
  have hbit := bits_or_i64 x y hx hy
  go_enter Try.func59, Try.ntmps59
  go_wp2
  go_ret
  exact ⟨rfl, rfl⟩
theorem callUnion : ∀ args (w : World), (callFunc 59 args).run Try.prog w = .ok (.enter 59 args) w :=
  fun args w => run_callFunc Try.func59 (by kernel_rfl) rfl args w

theorem implUnion_c (w : World) (a a' : Option Addr) (cap cap' : Nat) (xs ys : List Int) (h : Rd w a (ints xs)) (h' : Rd w a' (ints ys)) (hl : xs.length ≤ 1048576) (hl' : ys.length ≤ 1048576) :
    Calls Try.prog 24 #[.slice a xs.length cap, .slice a' ys.length cap'] w (RetI w (lift2 unionN xs ys)) := by
  by_cases hfit : fitB xs ys = true
  · obtain ⟨us, vs, rfl, rfl, ha, hb, hlen⟩ := ok_of_fit hfit
    rw [lift2_yes ha hb hlen]
    rw [ints_castI] at h h'
    rw [length_castI, length_castI, ← hlen]
    have C2 := hid (combined_c w _ (· ||| ·) a a' cap cap' us vs h h' ha hb hlen.symm callUnion fnUnion_c)
    refine Calls.mono (R := RetN w (unionN us vs)) ?_ (fun e w' h => h.castI)
    clear h h' hfit hlen
    go_enter Try.func24, Try.ntmps24
    go_wp2_with fail
    refine C2.out.mono ?_
    rintro e w2 ⟨a2, cap2, rfl, hown2, hb2⟩
    go_wp2
    go_ret
    exact ⟨a2, cap2, ret_slice (by simp [unionN]), hown2, hb2⟩
  · have hfit : fitB xs ys = false := by simpa using hfit
    have C2 := hid (combinedNo_c w 59 a a' cap cap' xs ys h h' hl hl' hfit)
    rw [lift2_no hfit]
    clear hfit h h'
    go_enter Try.func24, Try.ntmps24
    go_wp2_with fail
    refine C2.out.mono ?_
    rintro e w2 ⟨a2, cap2, rfl, hown2, hb2⟩
    go_wp2
    go_ret
    exact ⟨a2, cap2, rfl, hown2, hb2⟩

theorem l2Meet_c (w : World) (a a' : Option Addr) (cap cap' : Nat) (us vs : List Nat) (h : Rd w a (natV us)) (h' : Rd w a' (natV vs)) (ha : Ok us) (hb : Ok vs) (hl : vs.length = us.length) :
    Calls Try.prog 55 #[.slice a us.length cap, .slice a' us.length cap'] w (RetN w (meetN us vs)) := by
  obtain ⟨n, hn⟩ : ∃ n, us.length = n := ⟨_, rfl⟩
  have hlen := ha.len
  have hm : (meetN us vs).length = n := by simp [meetN, hl, hn]
  have HP := hid (fun e w' (h : ∃ a cap, e = .returned (.slice a n cap) ∧ w'.ownsRow w.heap.size 3 1 (.slice a n cap) n (natV (meetN us vs)) ∧ Below w.heap.size w w') => (show RetN w (meetN us vs) e w' by unfold RetN; rw [hm]; exact h))
  rw [hn] at hl hlen ⊢
  have HN := hid (show us.length = n ∧ vs.length = n ∧ (meetN us vs).length = n from ⟨hn, hl, hm⟩)
  clear hn hm hl
  refine Calls.mono (R := fun e w' => ∃ a cap, e = .returned (.slice a n cap) ∧ w'.ownsRow w.heap.size 3 1 (.slice a n cap) n (natV (meetN us vs)) ∧ Below w.heap.size w w') ?_ (fun e w' h => HP.out e w' h)
  clear HP
  go_enter Try.func55, Try.ntmps55
  go_wp2
  go_loopw [5, 6] (fun v i wr => ∃ k : Nat, k ≤ n ∧ i = .int .i64 k ∧ wr.ownsRow w.heap.size 3 1 v k (natV ((meetN us vs).take k)) ∧ Below w.heap.size w wr) (fun _ i _ => n - (intOf i).toNat)
  case atStart => exact ⟨0, Nat.zero_le _, rfl, by simpa [natV] using own_lit0 w w.heap.size 3 (Nat.le_refl _), (Below.refl _ _).alloc (Nat.le_refl _) _⟩
  case round =>
    obtain ⟨k, hk, rfl, hown, hbel⟩ := hrel
    by_cases hlt : k < n
    · obtain ⟨b, off, x, rfl, hb1, hx, hc⟩ := h.nat k (by rw [HN.out.1]; exact hlt)
      obtain ⟨b', off', y, rfl, hb', hy, hc'⟩ := h'.nat k (by rw [HN.out.2.1]; exact hlt)
      have hcx := (hbel.cell (p := ⟨b, off + k, none⟩) hb1).trans hc
      have hcx' := (hbel.cell (p := ⟨b', off' + k, none⟩) hb').trans hc'
      have hlt' : (k : Int) < n := by omega
      have hbit := bits_and_i64 x y (ha.at? hx) (hb.at? hy)
      have HT := hid (show natV ((meetN us vs).take k) ++ [Value.int .i64 (x &&& y : Nat)] = natV ((meetN us vs).take (k + 1)) from take_natV (zip_at hx hy))
      clear hc hc' h h' hx hy
      go_wp2_with fail
      refine wp_region_mix (by kernel_rfl) (by kernel_rfl) ?_
      go_wp2_with (first | (with_reducible refine wpMix_rd rfl rfl (fun K hK => ?_); go_simp; (try go_bits); refine hK _ ?_; clear hK K) | (with_reducible refine wpMix_act (o := ⟨_, .buildSlice _ _ _, _, _, _, _⟩) rfl rfl (fun K hK => ?_)))
      refine wpMix_append_one rfl (.tmp 14) (.tmp 24) 23 rfl w.heap.size 3 (.int .i64 0) 8 Try.underlying23 Try.info_int rfl _ _ _ rfl (hown.drew.alloc _) _ (.int .i64 (x &&& y : Nat)) rfl (by simp) rfl (by omega) (by omega) (by have := hbel.size; simp; omega) ?_
      intro v1 w1 hown1 hgrow1
      rw [HT.out] at hown1
      have hbel1 := (hbel.drew.alloc hbel.size _).grown hgrow1 (by simp; have := hbel.size; omega) (fun b hb => (hown.lt b hb).1)
      clear hcx hcx' hbit hown hgrow1
      go_wp2_with (first | (with_reducible refine wpMix_nil ?_) | (with_reducible refine wpMix_rd rfl rfl (fun K hK => ?_); go_simp; (try go_bits); refine hK _ ?_; clear hK K))
      go_roundw
      case rel => exact ⟨k + 1, by omega, by go_num, hown1, hbel1⟩
      case measure => simp [intOf]; omega
    · obtain ⟨a1, cap1, rfl, _⟩ := own_shape hown
      go_wp2
      go_ret
      obtain rfl : k = n := by omega
      rw [List.take_of_length_le (Nat.le_of_eq HN.out.2.2)] at hown
      exact ⟨_, _, rfl, hown, hbel⟩

theorem specMeet_c (w : World) (a a' : Option Addr) (cap cap' : Nat) (xs ys : List Int) (h : Rd w a (ints xs)) (h' : Rd w a' (ints ys)) (hl : xs.length ≤ 1048576) (hl' : ys.length ≤ 1048576) :
    Calls Try.prog 21 #[.slice a xs.length cap, .slice a' ys.length cap'] w (RetI w (lift2 meetN xs ys)) := by
  have C1 := hid (l2Fit_c w a a' cap cap' xs ys h h' hl hl')
  by_cases hfit : fitB xs ys = true
  · rw [hfit] at C1
    obtain ⟨us, vs, rfl, rfl, ha, hb, hlen⟩ := ok_of_fit hfit
    rw [lift2_yes ha hb hlen]
    rw [ints_castI] at h h'
    rw [length_castI, length_castI, ← hlen] at C1 ⊢
    have C2 := hid (fun w h h' => l2Meet_c w a a' cap cap' us vs h h' ha hb hlen.symm)
    have H1 := hid h
    have H2 := hid h'
    refine Calls.mono (R := RetN w (meetN us vs)) ?_ (fun e w' h => h.castI)
    clear h h' hfit hlen
    go_enter Try.func21, Try.ntmps21
    go_wp2_with fail
    refine C1.out.mono ?_
    rintro e w1 ⟨rfl, hb1⟩
    go_wp2_with fail
    refine (C2.out _ (H1.out.below hb1) (H2.out.below hb1)).mono ?_
    rintro e w2 ⟨a2, cap2, rfl, hown2, hb2⟩
    go_wp2
    go_ret
    exact ⟨a2, cap2, rfl, own_after hown2 hb1, hb1.trans (hb2.mono hb1.size)⟩
  · have hfit : fitB xs ys = false := by simpa using hfit
    rw [hfit] at C1
    rw [lift2_no hfit]
    refine Calls.mono (R := fun e w' => ∃ w1, e = .returned (.slice (some ⟨w1.heap.size, 0, none⟩) 0 0) ∧ w' = w1.alloc (.cells #[] 3) ∧ Below w.heap.size w w1) ?_ (fun e w' h => by
      obtain ⟨w1, rfl, rfl, hb⟩ := h
      exact ⟨_, _, rfl, own_lit0 w1 w.heap.size _ hb.size, hb.alloc hb.size _⟩)
    clear hfit
    go_enter Try.func21, Try.ntmps21
    go_wp2_with fail
    refine C1.out.mono ?_
    rintro e w1 ⟨rfl, hb1⟩
    go_wp2
    go_ret
    exact ⟨w1, rfl, rfl, hb1⟩

theorem fnMeet_c (w : World) (x y : Nat) (hx : x < 65536) (hy : y < 65536) :
    Calls Try.prog 54 #[.int .i64 x, .int .i64 y] w fun e w' => e = .returned (.int .i64 (x &&& y : Nat)) ∧ w = w' := by
  have hbit := bits_and_i64 x y hx hy
  go_enter Try.func54, Try.ntmps54
  go_wp2
  go_ret
  exact ⟨rfl, rfl⟩
theorem callMeet : ∀ args (w : World), (callFunc 54 args).run Try.prog w = .ok (.enter 54 args) w :=
  fun args w => run_callFunc Try.func54 (by kernel_rfl) rfl args w

theorem implMeet_c (w : World) (a a' : Option Addr) (cap cap' : Nat) (xs ys : List Int) (h : Rd w a (ints xs)) (h' : Rd w a' (ints ys)) (hl : xs.length ≤ 1048576) (hl' : ys.length ≤ 1048576) :
    Calls Try.prog 20 #[.slice a xs.length cap, .slice a' ys.length cap'] w (RetI w (lift2 meetN xs ys)) := by
  by_cases hfit : fitB xs ys = true
  · obtain ⟨us, vs, rfl, rfl, ha, hb, hlen⟩ := ok_of_fit hfit
    rw [lift2_yes ha hb hlen]
    rw [ints_castI] at h h'
    rw [length_castI, length_castI, ← hlen]
    have C2 := hid (combined_c w _ (· &&& ·) a a' cap cap' us vs h h' ha hb hlen.symm callMeet fnMeet_c)
    refine Calls.mono (R := RetN w (meetN us vs)) ?_ (fun e w' h => h.castI)
    clear h h' hfit hlen
    go_enter Try.func20, Try.ntmps20
    go_wp2_with fail
    refine C2.out.mono ?_
    rintro e w2 ⟨a2, cap2, rfl, hown2, hb2⟩
    go_wp2
    go_ret
    exact ⟨a2, cap2, ret_slice (by simp [meetN]), hown2, hb2⟩
  · have hfit : fitB xs ys = false := by simpa using hfit
    have C2 := hid (combinedNo_c w 54 a a' cap cap' xs ys h h' hl hl' hfit)
    rw [lift2_no hfit]
    clear hfit h h'
    go_enter Try.func20, Try.ntmps20
    go_wp2_with fail
    refine C2.out.mono ?_
    rintro e w2 ⟨a2, cap2, rfl, hown2, hb2⟩
    go_wp2
    go_ret
    exact ⟨a2, cap2, rfl, hown2, hb2⟩

theorem l2Minus_c (w : World) (a a' : Option Addr) (cap cap' : Nat) (us vs : List Nat) (h : Rd w a (natV us)) (h' : Rd w a' (natV vs)) (ha : Ok us) (hb : Ok vs) (hl : vs.length = us.length) :
    Calls Try.prog 71 #[.slice a us.length cap, .slice a' us.length cap'] w (RetN w (minusN us vs)) := by
  obtain ⟨n, hn⟩ : ∃ n, us.length = n := ⟨_, rfl⟩
  have hlen := ha.len
  have hm : (minusN us vs).length = n := by simp [minusN, hl, hn]
  have HP := hid (fun e w' (h : ∃ a cap, e = .returned (.slice a n cap) ∧ w'.ownsRow w.heap.size 3 1 (.slice a n cap) n (natV (minusN us vs)) ∧ Below w.heap.size w w') => (show RetN w (minusN us vs) e w' by unfold RetN; rw [hm]; exact h))
  rw [hn] at hl hlen ⊢
  have HN := hid (show us.length = n ∧ vs.length = n ∧ (minusN us vs).length = n from ⟨hn, hl, hm⟩)
  clear hn hm hl
  refine Calls.mono (R := fun e w' => ∃ a cap, e = .returned (.slice a n cap) ∧ w'.ownsRow w.heap.size 3 1 (.slice a n cap) n (natV (minusN us vs)) ∧ Below w.heap.size w w') ?_ (fun e w' h => HP.out e w' h)
  clear HP
  go_enter Try.func71, Try.ntmps71
  go_wp2
  go_loopw [5, 6] (fun v i wr => ∃ k : Nat, k ≤ n ∧ i = .int .i64 k ∧ wr.ownsRow w.heap.size 3 1 v k (natV ((minusN us vs).take k)) ∧ Below w.heap.size w wr) (fun _ i _ => n - (intOf i).toNat)
  case atStart => exact ⟨0, Nat.zero_le _, rfl, by simpa [natV] using own_lit0 w w.heap.size 3 (Nat.le_refl _), (Below.refl _ _).alloc (Nat.le_refl _) _⟩
  case round =>
    obtain ⟨k, hk, rfl, hown, hbel⟩ := hrel
    by_cases hlt : k < n
    · obtain ⟨b, off, x, rfl, hb1, hx, hc⟩ := h.nat k (by rw [HN.out.1]; exact hlt)
      obtain ⟨b', off', y, rfl, hb', hy, hc'⟩ := h'.nat k (by rw [HN.out.2.1]; exact hlt)
      have hcx := (hbel.cell (p := ⟨b, off + k, none⟩) hb1).trans hc
      have hcx' := (hbel.cell (p := ⟨b', off' + k, none⟩) hb').trans hc'
      have hlt' : (k : Int) < n := by omega
      have hbit := bits_andNot_i64 x y (ha.at? hx) (hb.at? hy)
      have HT := hid (show natV ((minusN us vs).take k) ++ [Value.int .i64 (nMinus x y : Nat)] = natV ((minusN us vs).take (k + 1)) from take_natV (zip_at hx hy))
      clear hc hc' h h' hx hy
      go_wp2_with fail
      refine wp_region_mix (by kernel_rfl) (by kernel_rfl) ?_
      go_wp2_with (first | (with_reducible refine wpMix_rd rfl rfl (fun K hK => ?_); go_simp; (try go_bits); refine hK _ ?_; clear hK K) | (with_reducible refine wpMix_act (o := ⟨_, .buildSlice _ _ _, _, _, _, _⟩) rfl rfl (fun K hK => ?_)))
      refine wpMix_append_one rfl (.tmp 14) (.tmp 24) 23 rfl w.heap.size 3 (.int .i64 0) 8 Try.underlying23 Try.info_int rfl _ _ _ rfl (hown.drew.alloc _) _ (.int .i64 (nMinus x y : Nat)) rfl (by simp) rfl (by omega) (by omega) (by have := hbel.size; simp; omega) ?_
      intro v1 w1 hown1 hgrow1
      rw [HT.out] at hown1
      have hbel1 := (hbel.drew.alloc hbel.size _).grown hgrow1 (by simp; have := hbel.size; omega) (fun b hb => (hown.lt b hb).1)
      clear hcx hcx' hbit hown hgrow1
      go_wp2_with (first | (with_reducible refine wpMix_nil ?_) | (with_reducible refine wpMix_rd rfl rfl (fun K hK => ?_); go_simp; (try go_bits); refine hK _ ?_; clear hK K))
      go_roundw
      case rel => exact ⟨k + 1, by omega, by go_num, hown1, hbel1⟩
      case measure => simp [intOf]; omega
    · obtain ⟨a1, cap1, rfl, _⟩ := own_shape hown
      go_wp2
      go_ret
      obtain rfl : k = n := by omega
      rw [List.take_of_length_le (Nat.le_of_eq HN.out.2.2)] at hown
      exact ⟨_, _, rfl, hown, hbel⟩

theorem specMinus_c (w : World) (a a' : Option Addr) (cap cap' : Nat) (xs ys : List Int) (h : Rd w a (ints xs)) (h' : Rd w a' (ints ys)) (hl : xs.length ≤ 1048576) (hl' : ys.length ≤ 1048576) :
    Calls Try.prog 35 #[.slice a xs.length cap, .slice a' ys.length cap'] w (RetI w (lift2 minusN xs ys)) := by
  have C1 := hid (l2Fit_c w a a' cap cap' xs ys h h' hl hl')
  by_cases hfit : fitB xs ys = true
  · rw [hfit] at C1
    obtain ⟨us, vs, rfl, rfl, ha, hb, hlen⟩ := ok_of_fit hfit
    rw [lift2_yes ha hb hlen]
    rw [ints_castI] at h h'
    rw [length_castI, length_castI, ← hlen] at C1 ⊢
    have C2 := hid (fun w h h' => l2Minus_c w a a' cap cap' us vs h h' ha hb hlen.symm)
    have H1 := hid h
    have H2 := hid h'
    refine Calls.mono (R := RetN w (minusN us vs)) ?_ (fun e w' h => h.castI)
    clear h h' hfit hlen
    go_enter Try.func35, Try.ntmps35
    go_wp2_with fail
    refine C1.out.mono ?_
    rintro e w1 ⟨rfl, hb1⟩
    go_wp2_with fail
    refine (C2.out _ (H1.out.below hb1) (H2.out.below hb1)).mono ?_
    rintro e w2 ⟨a2, cap2, rfl, hown2, hb2⟩
    go_wp2
    go_ret
    exact ⟨a2, cap2, rfl, own_after hown2 hb1, hb1.trans (hb2.mono hb1.size)⟩
  · have hfit : fitB xs ys = false := by simpa using hfit
    rw [hfit] at C1
    rw [lift2_no hfit]
    refine Calls.mono (R := fun e w' => ∃ w1, e = .returned (.slice (some ⟨w1.heap.size, 0, none⟩) 0 0) ∧ w' = w1.alloc (.cells #[] 3) ∧ Below w.heap.size w w1) ?_ (fun e w' h => by
      obtain ⟨w1, rfl, rfl, hb⟩ := h
      exact ⟨_, _, rfl, own_lit0 w1 w.heap.size _ hb.size, hb.alloc hb.size _⟩)
    clear hfit
    go_enter Try.func35, Try.ntmps35
    go_wp2_with fail
    refine C1.out.mono ?_
    rintro e w1 ⟨rfl, hb1⟩
    go_wp2
    go_ret
    exact ⟨w1, rfl, rfl, hb1⟩

theorem fnMinus_c (w : World) (x y : Nat) (hx : x < 65536) (hy : y < 65536) :
    Calls Try.prog 70 #[.int .i64 x, .int .i64 y] w fun e w' => e = .returned (.int .i64 (nMinus x y : Nat)) ∧ w = w' := by
  have hbit := bits_andNot_i64 x y hx hy
  go_enter Try.func70, Try.ntmps70
  go_wp2
  go_ret
  exact ⟨rfl, rfl⟩
theorem callMinus : ∀ args (w : World), (callFunc 70 args).run Try.prog w = .ok (.enter 70 args) w :=
  fun args w => run_callFunc Try.func70 (by kernel_rfl) rfl args w

theorem implMinus_c (w : World) (a a' : Option Addr) (cap cap' : Nat) (xs ys : List Int) (h : Rd w a (ints xs)) (h' : Rd w a' (ints ys)) (hl : xs.length ≤ 1048576) (hl' : ys.length ≤ 1048576) :
    Calls Try.prog 34 #[.slice a xs.length cap, .slice a' ys.length cap'] w (RetI w (lift2 minusN xs ys)) := by
  by_cases hfit : fitB xs ys = true
  · obtain ⟨us, vs, rfl, rfl, ha, hb, hlen⟩ := ok_of_fit hfit
    rw [lift2_yes ha hb hlen]
    rw [ints_castI] at h h'
    rw [length_castI, length_castI, ← hlen]
    have C2 := hid (combined_c w _ (nMinus) a a' cap cap' us vs h h' ha hb hlen.symm callMinus fnMinus_c)
    refine Calls.mono (R := RetN w (minusN us vs)) ?_ (fun e w' h => h.castI)
    clear h h' hfit hlen
    go_enter Try.func34, Try.ntmps34
    go_wp2_with fail
    refine C2.out.mono ?_
    rintro e w2 ⟨a2, cap2, rfl, hown2, hb2⟩
    go_wp2
    go_ret
    exact ⟨a2, cap2, ret_slice (by simp [minusN]), hown2, hb2⟩
  · have hfit : fitB xs ys = false := by simpa using hfit
    have C2 := hid (combinedNo_c w 70 a a' cap cap' xs ys h h' hl hl' hfit)
    rw [lift2_no hfit]
    clear hfit h h'
    go_enter Try.func34, Try.ntmps34
    go_wp2_with fail
    refine C2.out.mono ?_
    rintro e w2 ⟨a2, cap2, rfl, hown2, hb2⟩
    go_wp2
    go_ret
    exact ⟨a2, cap2, rfl, hown2, hb2⟩
end Go.Proofs.Ytdppidhnlbfpmaa
