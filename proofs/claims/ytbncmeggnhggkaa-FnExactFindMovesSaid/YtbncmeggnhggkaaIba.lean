/-
  PROVED HERE: words for states with store buffers that lie in memory; what (*buffers).buffer, isEmpty do. CONDITIONS: as each theorem states.
-/
import Derived.Test.YtbncmeggnhggkaaImh
import Derived.Test.YtbncmeggnhggkaaBf
namespace Go.Proofs.Ytbncmeggnhggkaa
open Go.RowKit
set_option linter.unusedVariables false
set_option linter.unusedSimpArgs false

/-- A buffer's bytes. -/
def bytesB (r : List (Int × Int)) : List Int := r.map fun e => e.1 * 16 + e.2
def rowsW (rs : List (Option Addr × Nat)) (bf : List (List (Int × Int))) : List Value := List.zipWith (fun r xs => Value.slice r.1 xs.length r.2) rs bf
theorem length_rowsW {rs : List (Option Addr × Nat)} {bf : List (List (Int × Int))} (h : rs.length = bf.length) : (rowsW rs bf).length = bf.length := by simp [rowsW, h]
theorem rowsW_get {rs : List (Option Addr × Nat)} {bf : List (List (Int × Int))} {k : Nat} {r : Option Addr × Nat} {xs : List (Int × Int)} (h1 : rs[k]? = some r) (h2 : bf[k]? = some xs) : (rowsW rs bf)[k]? = some (.slice r.1 xs.length r.2) := by
  simp [rowsW, List.getElem?_zipWith, h1, h2]
/-- The buffers bf stand from the address a on. -/
def RdW (w : World) (a : Option Addr) (bf : List (List (Int × Int))) : Prop :=
  ∃ rs : List (Option Addr × Nat), rs.length = bf.length ∧ Rd w a (rowsW rs bf) ∧ ∀ (k : Nat) r xs, rs[k]? = some r → bf[k]? = some xs → Rd w r.1 (b8s (bytesB xs)) ∧ xs.length ≤ r.2
theorem RdW.below {w w' : World} {a : Option Addr} {bf : List (List (Int × Int))} (h : RdW w a bf) (hb : Below w.heap.size w w') : RdW w' a bf := by
  obtain ⟨rs, hl, ho, hi⟩ := h
  exact ⟨rs, hl, ho.below hb, fun k r xs h1 h2 => ⟨(hi k r xs h1 h2).1.below hb, (hi k r xs h1 h2).2⟩⟩
theorem RdW.at' {w : World} {a : Option Addr} {bf : List (List (Int × Int))} (h : RdW w a bf) {k : Nat} {xs : List (Int × Int)} (hx : bf[k]? = some xs) :
    ∃ b off r c, a = some ⟨b, off, none⟩ ∧ b < w.heap.size ∧ w.cell? ⟨b, off + k, none⟩ = some (.slice r xs.length c) ∧ Rd w r (b8s (bytesB xs)) ∧ xs.length ≤ c := by
  obtain ⟨rs, hl, ho, hi⟩ := h
  have hk := (List.getElem?_eq_some_iff.1 hx).1
  obtain ⟨b, off, h1, h2, h3⟩ := ho.at k (by rw [length_rowsW hl]; exact hk)
  have e1 : rs[k]? = some rs[k] := List.getElem?_eq_getElem (by omega)
  have e3 := rowsW_get e1 hx
  rw [List.getElem?_eq_getElem (by rw [length_rowsW hl]; exact hk)] at e3
  simp only [Option.some.injEq] at e3
  rw [e3] at h3
  exact ⟨b, off, _, _, h1, h2, h3, hi k _ _ e1 hx⟩

/-- A state with store buffers lies at block g. -/
structure BAt (w : World) (g : Nat) (p : Prg) (split : Bool) (s : St) : Prop where
  at_ : ∃ a cap wa wc, w.heap[g]? = some (.cells (valC a p.length cap s ++ [Value.bool split, Value.slice wa s.buf.length wc]).toArray 103 (0, 0)) ∧ RdP w a p ∧ RdW w wa s.buf ∧ s.buf.length ≤ wc
  good : Good4 p split s
section
variable {w w' : World} {g : Nat} {p : Prg} {split : Bool} {s : St}
theorem BAt.v (h : BAt w g p split s) : VAt w g p s := by
  obtain ⟨⟨a, cap, wa, wc, h1, h2, _⟩, hg⟩ := h
  exact ⟨⟨a, cap, _, _, h1, h2⟩, hg.toGood⟩
theorem BAt.below (h : BAt w g p split s) (hb : Below w.heap.size w w') : BAt w' g p split s := by
  obtain ⟨⟨a, cap, wa, wc, h1, h2, h3, h4⟩, hg⟩ := h
  exact ⟨⟨a, cap, wa, wc, by rw [hb.block g (Array.getElem?_eq_some_iff.1 h1).1]; exact h1, h2.below hb, h3.below hb, h4⟩, hg⟩
theorem BAt.lt (h : BAt w g p split s) : g < w.heap.size := by
  obtain ⟨⟨a, cap, wa, wc, h1, _⟩, _⟩ := h
  exact (Array.getElem?_eq_some_iff.1 h1).1
theorem BAt.more (h : BAt w g p split s) (hv : Shape p) : ∃ wa wc, w.cell? ⟨g, 16, none⟩ = some (.bool split) ∧ w.cell? ⟨g, 17, none⟩ = some (.slice wa s.buf.length wc) ∧ RdW w wa s.buf ∧ s.buf.length ≤ wc := by
  obtain ⟨⟨a, cap, wa, wc, h1, h2, h3, h4⟩, hg⟩ := h
  have hl := length_valC (a := a) (n := p.length) (cap := cap) (hg.toGood.vlen hv)
  refine ⟨wa, wc, ?_, ?_, h3, h4⟩
  · rw [cell_of_row w g 16 _ _ _ h1, List.getElem?_toArray, List.getElem?_append_right (by omega), hl]; rfl
  · rw [cell_of_row w g 17 _ _ _ h1, List.getElem?_toArray, List.getElem?_append_right (by omega), hl]; rfl
end
theorem ret_bool4 {a b : Bool} (h : a = b) : Ending.returned (.bool a) = .returned (.bool b) := by rw [h]

theorem buffer_c (w : World) (g : Nat) (p : Prg) (split : Bool) (s : St) (t loc i : Nat) (hi : i = place t loc split) (h : BAt w g p split s) (hv : Shape p) (ht : t ≤ 1000) (hl : loc ≤ 1000) :
    Calls Try.prog 133 #[.pointer (some ⟨g, 0, none⟩), .int .i64 t, .int .i64 loc] w fun e w' => e = .returned (.int .i64 (i : Nat)) ∧ w' = w := by
  obtain ⟨wa, wc, c16, _, _, _⟩ := h.more hv
  have hgl := h.lt
  subst hi
  clear h hv
  cases split
  · go_enter Try.func133, Try.ntmps133
    go_wp2
    go_ret
    exact ⟨rfl, rfl⟩
  · have e : (3 : Int) * (t : Int) + (loc : Int) = ((t * 3 + loc : Nat) : Int) := by omega
    go_enter Try.func133, Try.ntmps133
    go_wp2
    go_ret
    exact ⟨ret_int (by unfold place; simp), rfl⟩
theorem callBuf : ∀ args (w : World), (callFunc 133 args).run Try.prog w = .ok (.enter 133 args) w :=
  fun args w => run_callFunc Try.func133 rfl rfl args w
/-- All of a thread's buffers are empty. -/
theorem empty4_of {s : St} {t : Nat} {split : Bool} (h : ∀ loc, loc < 3 → row4 s (place t loc split) = []) : empty4 s t split = true := by
  unfold empty4
  rw [List.all_eq_true]
  intro i hi
  have hi := List.mem_range.1 hi
  cases split with
  | false =>
    have : i = 0 := by simp [nb] at hi; omega
    subst this
    have := h 0 (by omega)
    simp [place] at this
    simp [nb, this]
  | true =>
    have hi3 : i < 3 := by simpa [nb] using hi
    have := h i hi3
    simp only [place, if_true] at this
    simp [nb, this]
theorem empty4_not {s : St} {t loc : Nat} {split : Bool} (hl : loc < 3) (h : row4 s (place t loc split) ≠ []) : empty4 s t split = false := by
  unfold empty4
  rw [List.all_eq_false]
  obtain ⟨i, hi, e⟩ := place_eq t loc split (by omega)
  exact ⟨i, List.mem_range.2 hi, by rw [← e]; simpa using h⟩

set_option maxHeartbeats 1600000 in
theorem isEmpty_c (w : World) (g : Nat) (p : Prg) (split : Bool) (s : St) (t : Nat) (h : BAt w g p split s) (hv : Shape p) (ht : t < p.length) :
    Calls Try.prog 137 #[.pointer (some ⟨g, 0, none⟩), .int .i64 t] w fun e w' => e = .returned (.bool (empty4 s t split)) ∧ Below w.heap.size w w' := by
  obtain ⟨wa, wc, _, c17, hrw, _⟩ := h.more hv
  have hgl := h.lt
  have hbl := h.good.blen hv
  have HBF := hid (fun w (h : BAt w g p split s) loc (hl : loc ≤ 2) => buffer_c w g p split s t loc _ rfl h hv (by have := hv.len; omega) (by omega))
  have HPL := hid (fun loc (hl : loc ≤ 2) => show place t loc split < s.buf.length by rw [h.good.bufl]; exact place_lt ht hl)
  have HR7 := hid (fun b (hb : b < s.buf.length) => h.good.rlen hv (row4_get hb))
  have HAT := hid h
  have HRW := hid hrw
  have HNO := hid (fun loc (hl : loc < 3) hr => empty4_not (s := s) (t := t) (split := split) hl hr)
  have HYES := hid (fun hr => empty4_of (s := s) (t := t) (split := split) hr)
  obtain ⟨bl, hbn⟩ : ∃ bl, bl = s.buf.length := ⟨_, rfl⟩
  rw [← hbn] at c17 hbl HPL
  have HBN := hid hbn
  clear h hv hrw hbn ht
  go_enter Try.func137, Try.ntmps137
  go_wp2_with fail
  go_loopw [5, 6] (fun x i wr => ∃ k : Nat, k ≤ 3 ∧ i = .int .i64 k ∧ Hid (∀ loc, loc < k → row4 s (place t loc split) = []) ∧ Hid (Below w.heap.size w wr)) (fun _ i _ => 3 - (intOf i).toNat)
  case atStart => exact ⟨0, by omega, rfl, hid (fun loc hl => by omega), hid (Below.refl _ _)⟩
  case round =>
    obtain ⟨k, hk, rfl, HK, HB⟩ := hrel
    by_cases hk3 : k < 3
    · have hk3' : (k : Int) < 3 := by omega
      have hpl := HPL.out k (by omega)
      have HBW := hid (HAT.out.below HB.out)
      have HC := hid (fun w' (h : BAt w' g p split s) => HBF.out w' h k (by omega))
      obtain ⟨b, off, r, c, hab, hbl', hcell, _, _⟩ := HRW.out.at' (row4_get (s := s) (b := place t k split) (by rw [← HBN.out]; exact hpl))
      subst hab
      have hcw := (HB.out.cell (p := ⟨b, off + place t k split, none⟩) hbl').trans hcell
      have c17w := (HB.out.cell (p := ⟨g, 17, none⟩) hgl).trans c17
      have HR := hid (show ∀ l, l = (row4 s (place t k split)).length → (l = 0 → row4 s (place t k split) = []) ∧ (0 < l → row4 s (place t k split) ≠ []) from fun l e => ⟨fun h => List.eq_nil_of_length_eq_zero (by omega), fun h e2 => by rw [e2] at e; simp at e; omega⟩)
      have h7 := HR7.out (place t k split) (by rw [← HBN.out]; exact hpl)
      obtain ⟨l, hl⟩ : ∃ l, l = (row4 s (place t k split)).length := ⟨_, rfl⟩
      have HL := hid (HR.out l hl)
      rw [← hl] at hcw h7
      obtain ⟨i, hi⟩ : ∃ i, i = place t k split := ⟨_, rfl⟩
      rw [← hi] at HC hcw hpl HL
      have HI := hid hi
      have hpl' : (i : Int) < (bl : Int) := by omega
      clear hcell hl hi HR
      by_cases hl0 : l = 0
      · have hl1 : ¬ ((0 : Int) < (l : Int)) := by omega
        go_wp2_with fail
        refine MQ.wp_region_mix (q := [133]) (by kernel_rfl) (by kernel_rfl) ?_
        repeat (with_reducible refine MQ.wpMix_rd rfl rfl rfl (fun K hK => ?_); go_simp; (try go_bits); refine hK _ ?_; clear hK K)
        refine MQ.wpMix_call rfl 133 _ _ rfl rfl #[.pointer (some ⟨g, 0, none⟩), .int .i64 t, .int .i64 k] (by simp [Act.eval]) (callBuf _ _) _ (HC.out _ (HBW.out.below (below_drewN 1 (Below.refl _ _)))) ?_
        repeat (with_reducible refine MQ.wpMix_rd rfl rfl rfl (fun K hK => ?_); go_simp; (try go_bits); refine hK _ ?_; clear hK K)
        (with_reducible refine MQ.wpMix_nil ?_)
        go_wp2_with fail
        go_roundw
        case rel => exact ⟨k + 1, by omega, by go_num, hid (fun loc hl => by
          by_cases e : loc = k
          · rw [e, ← HI.out]; exact HL.out.1 hl0
          · exact HK.out loc (by omega)), hid (below_drewN 1 HB.out)⟩
        case measure => simp [intOf]; omega
      · have hl1 : (0 : Int) < (l : Int) := by omega
        have HF := hid (HNO.out k hk3 (by rw [← HI.out]; exact HL.out.2 (by omega)))
        go_wp2_with fail
        refine MQ.wp_region_mix (q := [133]) (by kernel_rfl) (by kernel_rfl) ?_
        repeat (with_reducible refine MQ.wpMix_rd rfl rfl rfl (fun K hK => ?_); go_simp; (try go_bits); refine hK _ ?_; clear hK K)
        refine MQ.wpMix_call rfl 133 _ _ rfl rfl #[.pointer (some ⟨g, 0, none⟩), .int .i64 t, .int .i64 k] (by simp [Act.eval]) (callBuf _ _) _ (HC.out _ (HBW.out.below (below_drewN 1 (Below.refl _ _)))) ?_
        repeat (with_reducible refine MQ.wpMix_rd rfl rfl rfl (fun K hK => ?_); go_simp; (try go_bits); refine hK _ ?_; clear hK K)
        (with_reducible refine MQ.wpMix_nil ?_)
        go_wp2
        go_ret
        exact ⟨ret_bool4 HF.out.symm, below_drewN 1 HB.out⟩
    · have hk3' : ¬ ((k : Int) < 3) := by omega
      have HF := hid (HYES.out (fun loc hl => HK.out loc (by omega)))
      go_wp2
      go_ret
      exact ⟨ret_bool4 HF.out.symm, HB.out⟩
end Go.Proofs.Ytbncmeggnhggkaa
