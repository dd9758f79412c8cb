/-
  PROVED HERE: what slices.Backward over bytes hands back. what (*buffers).read does. CONDITIONS: as each theorem states.
-/
import Derived.RangeFuncBox
import Derived.RangeFuncLeaves
import Derived.Shelf.Abstract
import Derived.WalkKit
import Derived.OwnWalkIn
import Derived.TacticsInMore
import Derived.LoopNIn
import Derived.LoopIn
import Derived.Test.YtbncmeggnhggkaaIba
import Derived.RangeFuncNested
import Derived.RangeFuncWrites
namespace Go.Proofs.Ytbncmeggnhggkaa
open Go.RowKit Go.Shelf
attribute [local go_sem] Oper.semAt_some
set_option linter.unusedVariables false
set_option linter.unusedSimpArgs false

/-- What has come when k rounds are over. -/
def upto {α : Type} (f : Nat → α) (k : Nat) : List α := (List.range k).map f
theorem upto_succ {α : Type} (f : Nat → α) (k : Nat) : upto f (k + 1) = upto f k ++ [f k] := by simp [upto, List.range_succ]
theorem upto_length {α : Type} (f : Nat → α) (k : Nat) : (upto f k).length = k := by simp [upto]
/-- An index and a byte. -/
abbrev B8 := { x : Int × Int // 0 ≤ x.2 ∧ x.2 ≤ 255 }
def bwd (zs : List Int) (hz : ∀ j : Nat, 0 ≤ zs[j]?.getD 0 ∧ zs[j]?.getD 0 ≤ 255) (len : Nat) (j : Nat) : B8 := ⟨((len : Int) - 1 - (j : Int), zs[len - 1 - j]?.getD 0), hz _⟩

set_option maxRecDepth 100000 in
set_option maxHeartbeats 2000000 in
theorem back1_in (F : Fence) (n : Nat) (h7 : F.fn 140) (hro : F.round = none) (hn : 1 ≤ n) (l Bs n₀ b off len cap : Nat) (zs : List Int) (hz8 : ∀ j : Nat, 0 ≤ zs[j]?.getD 0 ∧ zs[j]?.getD 0 ≤ 255) (hlen : len ≤ 1000) (hb : b < n₀) (hBn : Bs < n₀) (J Jx : List B8 → World → Prop)
    (hY : ∀ pre x W, J pre W → pre.length < len → YieldAt F (n - 1) Try.prog l #[.int .i64 x.1.1, .int .u8 x.1.2] W fun e W' =>
      (e = .returned (.bool true) ∧ J (pre ++ [x]) W' ∧ Below n₀ W W') ∨ (e = .returned (.bool false) ∧ Jx (pre ++ [x]) W'))
    (W : World) (hBs : W.cell? ⟨Bs, 0, none⟩ = some (.slice (some ⟨b, off, none⟩) len cap)) (hc : ∀ j, j < len → W.cell? ⟨b, off + j, none⟩ = some (.int .u8 (zs[j]?.getD 0))) (h0 : J [] W) :
    CallsIn F n Try.prog 140 #[.func (.yield l) #[] #[], .pointer (some ⟨Bs, 0, none⟩)] W fun e W' => (∃ v, e = .returned v) ∧
      ((∃ ys, ys = upto (bwd zs hz8 len) len ∧ J ys W') ∨ (∃ pre, (∃ k, k ≤ len ∧ pre = upto (bwd zs hz8 len) k) ∧ Jx pre W')) := by
  refine callsIn_of_wp Try.func140 rfl h7 ?_ hro
  simp only [Try.ntmps140, List.size_toArray, List.length_cons, List.length_nil, Nat.reduceAdd, Nat.reduceSub, Array.replicate_succ, Array.replicate_zero, List.push_toArray, List.append_toArray, List.nil_append, List.cons_append]
  gi_wp2
  gi_loopw [3] (fun i wr => ∃ k : Nat, k ≤ len ∧ i = .int .i64 ((len : Int) - 1 - (k : Int)) ∧ J (upto (bwd zs hz8 len) k) wr ∧ Below n₀ W wr)
    (fun i _ => (intOf i + 1).toNat)
  case atStart => exact ⟨0, Nat.zero_le _, by simp, h0, Below.refl _ _⟩
  case round =>
    obtain ⟨k, hk, rfl, hJs, hnx⟩ := hrel
    by_cases hlt : k < len
    · obtain ⟨i, hi1, hi2⟩ : ∃ i : Nat, (len : Int) - 1 - (k : Int) = (i : Int) ∧ i = len - 1 - k := ⟨len - 1 - k, by omega, rfl⟩
      have hil : (i : Int) < (len : Int) := by omega
      have hi0 : (0 : Int) ≤ (i : Int) := by omega
      have HX := hid (show bwd zs hz8 len k = ⟨((i : Int), zs[i]?.getD 0), hz8 i⟩ from by unfold bwd; apply Subtype.ext; simp only [hi1, ← hi2])
      have hcx0 := (hnx.cell (p := ⟨b, off + i, none⟩) hb).trans (hc i (by omega))
      have hbx := (hnx.cell (p := ⟨Bs, 0, none⟩) hBn).trans hBs
      have HI1 := hid hi1
      obtain ⟨z, hzi, hcx, hS⟩ : ∃ (z : Int) (hzi : 0 ≤ z ∧ z ≤ 255), wr.cell? ⟨b, off + i, none⟩ = some (.int .u8 z) ∧ upto (bwd zs hz8 len) (k + 1) = upto (bwd zs hz8 len) k ++ [⟨((i : Int), z), hzi⟩] :=
        ⟨_, hz8 i, hcx0, by rw [upto_succ, HX.out]⟩
      have HS := hid hS
      obtain ⟨fn, tmps, assign, body, hy, hR⟩ := hY _ ⟨((i : Int), z), hzi⟩ wr hJs (by rw [upto_length]; exact hlt)
      dsimp only at hy
      rw [hi1]
      clear hi1 hi2 hS hcx0
      gi_wp2
      refine hR.mono ?_
      rintro e W3 (⟨rfl, hJ3, hk3⟩ | ⟨rfl, hJx3⟩)
      · gi_wp2
        go_roundw
        case rel => exact ⟨k + 1, by omega, by have := HI1.out; first | (simp; done) | (simp; omega) | (congr 1; done) | (congr 1; omega), by rw [HS.out]; exact hJ3, hnx.trans hk3⟩
        case measure => simp [intOf]
      · gi_wp2
        refine bodyPost_ret (results_none rfl _ _ _) rfl ?_
        refine ⟨⟨_, rfl⟩, .inr ?_⟩
        rw [← HS.out] at hJx3
        first
          | exact ⟨_, ⟨k + 1, by omega, rfl⟩, hJx3⟩
          | exact ⟨k + 1, by omega, hJx3⟩
    · obtain rfl : k = len := by omega
      have hneg : ¬ ((0 : Int) ≤ (k : Int) - 1 - (k : Int)) := by omega
      gi_wp2
      go_end0
      exact ⟨⟨_, rfl⟩, .inl (by first | exact hJs | exact ⟨_, rfl, hJs⟩)⟩
/-- The slice value sv holds the bytes zs, in a block below n₀; or it is nil and there are none. -/
def Byts (n₀ : Nat) (W : World) (sv : Value) (zs : List Int) : Prop :=
  (zs = [] ∧ ∃ a cap, sv = .slice a 0 cap) ∨ ∃ b off cap, sv = .slice (some ⟨b, off, none⟩) zs.length cap ∧ b < n₀ ∧ ∀ j, j < zs.length → W.cell? ⟨b, off + j, none⟩ = some (.int .u8 (zs[j]?.getD 0))
theorem Byts.below {n₀ : Nat} {A B : World} (h : Below n₀ A B) {sv : Value} {zs : List Int} : Byts n₀ A sv zs → Byts n₀ B sv zs
  | .inl e => .inl e
  | .inr ⟨b, off, cap, e, hb, hc⟩ => .inr ⟨b, off, cap, e, hb, fun j hj => (h.cell (p := ⟨b, off + j, none⟩) hb).trans (hc j hj)⟩
set_option maxRecDepth 100000 in
set_option maxHeartbeats 1000000 in
theorem back1_nil_in (F : Fence) (n : Nat) (h7 : F.fn 140) (hro : F.round = none) (l Bs : Nat) (a : Option Addr) (cap : Nat) (J : List B8 → World → Prop) (W : World) (hBs : W.cell? ⟨Bs, 0, none⟩ = some (.slice a 0 cap)) (h0 : J [] W) :
    CallsIn F n Try.prog 140 #[.func (.yield l) #[] #[], .pointer (some ⟨Bs, 0, none⟩)] W fun e W' => (∃ v, e = .returned v) ∧ J [] W' := by
  refine callsIn_of_wp Try.func140 rfl h7 ?_ hro
  simp only [Try.ntmps140, List.size_toArray, List.length_cons, List.length_nil, Nat.reduceAdd, Nat.reduceSub, Array.replicate_succ, Array.replicate_zero, List.push_toArray, List.append_toArray, List.nil_append, List.cons_append]
  gi_wp2
  gi_loopw [3] (fun i wr => i = .int .i64 (-1) ∧ J [] wr) (fun _ _ => 0)
  case atStart => exact ⟨rfl, h0⟩
  case round =>
    obtain ⟨rfl, hJs⟩ := hrel
    gi_wp2
    go_end0
    exact ⟨⟨_, rfl⟩, hJs⟩
theorem back_stops (F : Fence) (n : Nat) (h7 : F.fn 140) (hro : F.round = none) (hn : 1 ≤ n) (Bs n₀ : Nat) (sv : Value) (zs : List Int) (hz8 : ∀ j : Nat, 0 ≤ zs[j]?.getD 0 ∧ zs[j]?.getD 0 ≤ 255) (hlen : zs.length ≤ 1000) (w : World) (hBs : Bs < n₀) (hn₀ : n₀ ≤ w.heap.size)
    (hc : w.cell? ⟨Bs, 0, none⟩ = some sv) (hI : Byts n₀ w sv zs) :
    SeqStopsK F n Try.prog 140 #[.pointer (some ⟨Bs, 0, none⟩)] (fun x : B8 => #[Value.int .i64 x.1.1, Value.int .u8 x.1.2]) (Below n₀) (fun ys => ys = upto (bwd zs hz8 zs.length) zs.length)
      (fun pre => ∃ k, k ≤ zs.length ∧ pre = upto (bwd zs hz8 zs.length) k) zs.length w := fun l J Jx W hW _ _ hY h0 => by
  have hc' := (hW.cell (p := ⟨Bs, 0, none⟩) (by show Bs < _; omega)).trans hc
  rcases hI.below (hW.mono hn₀) with ⟨rfl, a, cap, rfl⟩ | ⟨b, off, cap, rfl, hb, hcs⟩
  · exact (back1_nil_in F n h7 hro l Bs a cap J W hc' h0).mono fun e W' ⟨he, hj⟩ => ⟨he, .inl ⟨_, rfl, hj⟩⟩
  · exact back1_in F n h7 hro hn l Bs n₀ b off zs.length cap zs hz8 hlen hb hBs J Jx hY W hc' hcs h0
end Go.Proofs.Ytbncmeggnhggkaa
namespace Go.Proofs.Ytbncmeggnhggkaa
open Go.RowKit Go.Shelf
attribute [local go_sem] Oper.semAt_some
set_option linter.unusedVariables false
set_option linter.unusedSimpArgs false

/-- Between two rounds: nothing has been found, and the cells lie as they lay. -/
def rdI (w : World) (loc : Nat) (pre : List B8) (W : World) : Prop :=
  (∀ x ∈ pre, x.1.2 / 16 ≠ (loc : Int)) ∧ W.cell? ⟨w.heap.size, 0, none⟩ = some (.int .i64 loc) ∧ W.cell? ⟨w.heap.size + 1, 0, none⟩ = some (.int .u8 0) ∧ W.frozen? ⟨w.heap.size + 1, 0, none⟩ = false
/-- A round has found the location. -/
def rdX (w : World) (loc : Nat) (c : Code) (pre : List B8) (W : World) : Prop :=
  c = .ret ∧ ∃ (ini : List B8) (last : B8), pre = ini ++ [last] ∧ (∀ x ∈ ini, x.1.2 / 16 ≠ (loc : Int)) ∧ last.1.2 / 16 = (loc : Int) ∧ W.cell? ⟨w.heap.size + 1, 0, none⟩ = some (.int .u8 (last.1.2 % 16))
theorem bytes_at {R : List (Int × Int)} {k : Nat} {e : Int × Int} (h : R[k]? = some e) : (bytesB R)[k]?.getD 0 = e.1 * 16 + e.2 := by
  unfold bytesB
  rw [List.getElem?_map, h]
  rfl
theorem inBuf_none {R : List (Int × Int)} {loc : Int} (h : ∀ e ∈ R, e.1 = loc → False) : inBuf R loc = none := by
  unfold inBuf
  rw [List.find?_eq_none.2 fun e he => by
    have := h e (List.mem_reverse.1 he)
    simpa using this]
  rfl
theorem inBuf_at {R : List (Int × Int)} {loc : Int} {k : Nat} {e : Int × Int} (h : R[k]? = some e) (hl : e.1 = loc) (hn : ∀ (j : Nat) (e' : Int × Int), k < j → R[j]? = some e' → e'.1 = loc → False) : inBuf R loc = some e.2 := by
  have hk := (List.getElem?_eq_some_iff.1 h).1
  have hsp : R = R.take k ++ e :: R.drop (k + 1) := by
    have h1 := List.take_append_drop k R
    rw [List.drop_eq_getElem_cons hk] at h1
    rw [(List.getElem?_eq_some_iff.1 h).2] at h1
    exact h1.symm
  have hd : inBuf (R.drop (k + 1)) loc = none := inBuf_none fun e' he' hl' => by
    obtain ⟨j, hj⟩ := List.mem_iff_getElem?.1 he'
    rw [List.getElem?_drop] at hj
    exact hn (k + 1 + j) e' (by omega) hj hl'
  unfold inBuf at hd ⊢
  rw [hsp, List.reverse_append, List.reverse_cons, List.append_assoc, List.find?_append]
  have hd' : (R.drop (k + 1)).reverse.find? (fun e => e.1 == loc) = none := by
    cases hf : (R.drop (k + 1)).reverse.find? (fun e => e.1 == loc) with
    | none => rfl
    | some x => rw [hf] at hd; simp at hd
  rw [hd']
  simp [hl]
theorem back_c (w : World) (a : Option Addr) (n cap : Nat) : Calls Try.prog 138 #[.slice a n cap] w fun e w' => e = .returned (.func (.func 140) #[] #[.pointer (some ⟨w.heap.size, 0, none⟩)]) ∧ w' = w.alloc (.cells #[.slice a n cap] 138) := by
  go_enter Try.func138, Try.ntmps138
  go_wp2
  go_ret
  exact ⟨rfl, rfl⟩
set_option maxRecDepth 100000 in
set_option maxHeartbeats 3200000 in
theorem read_c (w : World) (g : Nat) (p : Prg) (split : Bool) (s : St) (t loc : Nat) (h : BAt w g p split s) (hv : Shape p) (ht : t < p.length) (hl : loc ≤ 2) :
    Calls Try.prog 132 #[.pointer (some ⟨g, 0, none⟩), .int .i64 t, .int .i64 loc] w fun e w' => e = .returned (.int .u8 (seen4 s t loc split)) ∧ Below w.heap.size w w' := by
  obtain ⟨wa, wc, _, c17, hrw, _⟩ := h.more hv
  have hgl := h.lt
  have hbl := h.good.blen hv
  have hn3 := hv.len
  obtain ⟨i, hi⟩ : ∃ i, i = place t loc split := ⟨_, rfl⟩
  have hib : i < s.buf.length := by rw [hi, h.good.bufl]; exact place_lt ht hl
  have HBF := hid (fun w (h : BAt w g p split s) => buffer_c w g p split s t loc i hi h hv (by omega) (by omega))
  obtain ⟨wb, wo, r, rc, hwa, hwl, hcell, hbytes, hrcap⟩ := hrw.at' (row4_get hib)
  subst hwa
  have hr7 := h.good.rlen hv (row4_get hib)
  have HENT := hid (fun e he => h.good.ent i _ (row4_get hib) e he)
  obtain ⟨mv, hmv⟩ : ∃ mv, s.mem[loc]? = some mv := ⟨_, List.getElem?_eq_getElem (by rw [h.good.meml]; omega)⟩
  have hcm : w.cell? ⟨g, 13 + loc, none⟩ = some (.int .u8 mv) := by
    obtain ⟨_, _, _, _, _, _, hm⟩ := h.v.cells hv
    exact hm loc mv hmv
  have HSEE := hid (show seen4 s t loc split = (inBuf (row4 s i) loc).getD mv from by
    unfold seen4
    rw [hi]
    simp [List.getD_eq_getElem?_getD, hmv])
  obtain ⟨R, hR⟩ : ∃ R, R = row4 s i := ⟨_, rfl⟩
  rw [← hR] at hcell hbytes hr7 HENT HSEE
  obtain ⟨L, hL⟩ : ∃ L, L = R.length := ⟨_, rfl⟩
  have HLR := hid hL
  rw [← hL] at hcell hr7
  have HAT := hid h
  have HBY := hid hbytes
  obtain ⟨bl, hbn⟩ : ∃ bl, bl = s.buf.length := ⟨_, rfl⟩
  rw [← hbn] at c17 hib hbl
  have hib' : (i : Int) < (bl : Int) := by omega
  obtain ⟨w1, hw1⟩ : ∃ w1, w1 = (w.alloc (.cells #[.int .i64 loc] 3)).alloc (.cells #[.int .u8 0] 5) := ⟨_, rfl⟩
  have hb1 : Below w.heap.size w w1 := by rw [hw1]; exact ((Below.refl _ _).alloc (Nat.le_refl _) _).alloc (by simp) _
  have hs1 : w1.heap.size = w.heap.size + 2 := by rw [hw1]; simp
  have x5 : w1.cell? ⟨w.heap.size, 0, none⟩ = some (.int .i64 loc) := by rw [hw1]; simp
  have HC17 := hid c17
  have HCW := hid (And.intro hwl hcell)
  have HCM := hid hcm
  have HX5 := hid x5
  have HB1 := hid hb1
  obtain ⟨J, hJ⟩ : ∃ J : World → Prop, J = fun w' => Below w1.heap.size w1 w' := ⟨_, rfl⟩
  have HJ := hid (fun w' (h : Below w1.heap.size w1 w') => show J w' by rw [hJ]; exact h)
  have HC := hid (fun w' (h : J w') => show w'.cell? ⟨g, 17, none⟩ = some (.slice (some ⟨wb, wo, none⟩) bl wc) ∧ w'.cell? ⟨w.heap.size, 0, none⟩ = some (.int .i64 loc) ∧ w'.cell? ⟨wb, wo + i, none⟩ = some (.slice r L rc) from by
    rw [hJ] at h
    have hb : Below w.heap.size w w' := HB1.out.trans (h.mono (by omega))
    exact ⟨(hb.cell (p := ⟨g, 17, none⟩) hgl).trans HC17.out, (h.cell (p := ⟨w.heap.size, 0, none⟩) (by show w.heap.size < _; omega)).trans HX5.out, (hb.cell (p := ⟨wb, wo + i, none⟩) HCW.out.1).trans HCW.out.2⟩)
  have hJ0 : J w1.drew := HJ.out _ (below_drewN 1 (Below.refl _ _))
  clear hJ hi h hv hrw hcell hwl hbytes hmv hcm hR hL hbn ht hb1 c17 x5
  refine (callsIn_wide (n := 5)).1 ?_
  refine callsIn_of_wp_marks Try.func132 rfl trivial ?_ rfl
  simp only [Try.ntmps132, List.size_toArray, List.length_cons, List.length_nil, Nat.reduceAdd, Nat.reduceSub, Array.replicate_succ, Array.replicate_zero, List.push_toArray, List.append_toArray, List.nil_append, List.cons_append]
  refine wpIn_wide.2 ?_
  go_wp2_with fail
  have HW1 := hid hw1
  rw [← hw1]
  clear hw1
  refine MJ.wp_region_mix (J := J) (by kernel_rfl) (by kernel_rfl) ?_
  repeat (first | (refine MJ.wpMix_pure rfl rfl (fun K hK => ?_); go_simp; (first | refine hK _ ?_ | refine ⟨_, fun W hW => rfl, hK _ ?_⟩ | refine ⟨_, fun W hW => ⟨rfl, rfl⟩, hK _ ?_⟩); clear hK K) | (refine MJ.wpMix_held rfl rfl (by assumption) (fun K hK => ?_); go_simp; apply Exists.intro; refine And.intro (fun W hW => ?_) (hK _ ?_); (focus (have hcs := HC.out W hW; go_simp; try rfl)); clear hK K))
  (with_reducible refine MJ.wpMix_make rfl rfl (fun K hK => ?_); go_simp)
  refine (HBF.out _ (HAT.out.below (below_drewN 1 HB1.out))).mono ?_
  rintro e w2 ⟨rfl, rfl⟩
  refine hK _ _ hJ0 ?_
  clear hK K
  repeat (first | (refine MJ.wpMix_pure rfl rfl (fun K hK => ?_); go_simp; (first | refine hK _ ?_ | refine ⟨_, fun W hW => rfl, hK _ ?_⟩ | refine ⟨_, fun W hW => ⟨rfl, rfl⟩, hK _ ?_⟩); clear hK K) | (refine MJ.wpMix_held rfl rfl (by assumption) (fun K hK => ?_); go_simp; apply Exists.intro; refine And.intro (fun W hW => ?_) (hK _ ?_); (focus (have hcs := HC.out W hW; go_simp; try rfl)); clear hK K))
  (with_reducible refine MJ.wpMix_make rfl rfl (fun K hK => ?_); go_simp)
  refine (back_c _ _ _ _).mono ?_
  rintro e w3 ⟨rfl, rfl⟩
  refine hK _ _ (HJ.out _ ((below_drewN 1 (Below.refl _ _)).alloc (Nat.le_refl _) _)) ?_
  clear hK K
  refine MJ.wpMix_nil ?_
  have e2 : (w1.drewN 1).heap.size = w.heap.size + 2 := hs1
  rw [e2]
  obtain ⟨w3, hw3⟩ : ∃ w3, w3 = (w1.drewN 1).alloc (.cells #[.slice r L rc] 138) := ⟨_, rfl⟩
  have hb3 : Below w1.heap.size w1 w3 := by rw [hw3]; exact (below_drewN 1 (Below.refl _ _)).alloc (Nat.le_refl _) _
  have hs3 : w3.heap.size = w.heap.size + 3 := by rw [hw3, World.size_alloc, e2]
  have cN : w3.cell? ⟨w.heap.size + 2, 0, none⟩ = some (.slice r L rc) := by
    have := cell_of_row w3 (w1.drewN 1).heap.size 0 #[.slice r L rc] 138 (0, 0) (by rw [hw3]; exact heap_alloc_new _ _)
    rw [e2] at this
    exact this.trans rfl
  have c5 : w3.cell? ⟨w.heap.size, 0, none⟩ = some (.int .i64 loc) := (hb3.cell (p := ⟨w.heap.size, 0, none⟩) (by show w.heap.size < _; omega)).trans HX5.out
  have hr6 : w1.heap[w.heap.size + 1]? = some (.cells #[.int .u8 0] 5 (0, 0)) := by
    rw [HW1.out]
    have := heap_alloc_new (w.alloc (.cells #[.int .i64 loc] 3)) (.cells #[.int .u8 0] 5)
    simpa using this
  have hr63 := (hb3.block _ (by omega)).trans hr6
  have c6 : w3.cell? ⟨w.heap.size + 1, 0, none⟩ = some (.int .u8 0) := (cell_of_row w3 (w.heap.size + 1) 0 _ _ _ hr63).trans rfl
  have f6 := frozen_of_row w3 (w.heap.size + 1) 0 _ _ hr63
  have hB3 := HB1.out.trans (hb3.mono (by omega))
  rw [← hw3]
  clear hw3 e2 hJ0 HJ HC hr6 hr63
  have hbyts : Byts (w.heap.size + 3) w3 (.slice r L rc) (bytesB R) := by
    have hlen : (bytesB R).length = L := by rw [HLR.out]; simp [bytesB]
    rcases HBY.out with h0 | ⟨b, off, hra, hbl2, hcb⟩
    · have e : bytesB R = [] := by simpa using h0
      refine .inl ⟨e, r, rc, ?_⟩
      rw [e] at hlen
      rw [← hlen]; rfl
    · refine .inr ⟨b, off, rc, by rw [hra, hlen], by omega, fun j hj => ?_⟩
      exact (hB3.cell (p := ⟨b, off + j, none⟩) hbl2).trans (hcb j _ (by simp [hj]))
  have hz8 : ∀ j : Nat, 0 ≤ (bytesB R)[j]?.getD 0 ∧ (bytesB R)[j]?.getD 0 ≤ 255 := fun j => by
    unfold bytesB
    rw [List.getElem?_map]
    cases hj : R[j]? with
    | none => simp
    | some e =>
      have := HENT.out e (List.mem_of_getElem? hj)
      simp
      omega
  have hblen : (bytesB R).length ≤ 1000 := by rw [show (bytesB R).length = L by rw [HLR.out]; simp [bytesB]]; omega
  go_wp2_with fail
  refine (wpIn_wide (n := 5)).1 ?_
  refine wpIn_rangeFunc_ownG rfl (by omega) (gf := 140) (lb := #[.pointer (some ⟨w.heap.size + 2, 0, none⟩)]) rfl trivial (enters_of Try.func140 (by kernel_rfl) rfl)
    (back_stops Fence.wide (5 - 1) trivial rfl (by omega) (w.heap.size + 2) (w.heap.size + 3) _ (bytesB R) hz8 hblen _ (by omega) (by omega) cN hbyts) belowK_t (belowK_b (by omega)) (Below.refl _ _) (fun _ => rfl)
    (fun pre W => rdI w loc pre W ∧ Below w.heap.size w W)
    (fun c pre W => rdX w loc c pre W ∧ Below w.heap.size w W)
    (OwnFrom.and (Own.from (fun s A B row hs hg hr => ⟨hs.1, cell_kept hs.2.1 hg hr, cell_kept hs.2.2.1 hg hr, (frozen_kept hs.2.2.1 hg hr).trans hs.2.2.2⟩) _) (ownFrom_below (Nat.le_refl _) (by omega)))
    (fun c => OwnFrom.and (Own.from (fun s A B row hs hg hr => by obtain ⟨hc, ini, last, e1, e2, e3, e4⟩ := hs; exact ⟨hc, ini, last, e1, e2, e3, cell_kept e4 hg hr⟩) _) (ownFrom_below (Nat.le_refl _) (by omega)))
    ⟨⟨by simp, c5, c6, f6⟩, hB3⟩
    (fun x => { tmps := #[.pointer (some ⟨g, 0, none⟩), .int .i64 t, .int .i64 loc, undef, undef, .pointer (some ⟨w.heap.size, 0, none⟩), .pointer (some ⟨w.heap.size + 1, 0, none⟩), undef, .int .u8 x.1.2, .pointer (some ⟨g, 0, none⟩), .pointer (some ⟨g, 0, none⟩), .pointer (some ⟨g, 17, none⟩), .slice (some ⟨wb, wo, none⟩) bl wc, .pointer (some ⟨g, 0, none⟩), .int .i64 t, .int .i64 loc, .int .i64 i, .pointer (some ⟨wb, wo + i, none⟩), .slice r L rc, .func (.func 140) #[] #[.pointer (some ⟨w.heap.size + 2, 0, none⟩)], .int .i64 x.1.1, .int .u8 x.1.2, undef, undef, undef, undef, undef, undef, undef, undef, undef, undef, undef, undef, undef, undef], defers := [] }) ?assign ?body ?done ?stop
  case assign =>
    intro l x W K hK
    gi_wp2
    exact hK
  case body =>
    rintro l pre ⟨⟨xi, xv⟩, hx0, hx1⟩ W ⟨hI, hB⟩ _
    dsimp only at hx0 hx1
    have HII := hid hI
    obtain ⟨_, hc5, hc6, hf6⟩ := hI
    by_cases hq : xv / 16 = (loc : Int)
    · have hq' : (xv / 16 == (loc : Int)) = true := by simpa using hq
      have HQ := hid hq
      clear hq
      gi_wp2
      exact ⟨(KeepsOthers.setCell _ _ _).from _, ⟨rfl, pre, ⟨(xi, xv), hx0, hx1⟩, rfl, HII.out.1, HQ.out, World.cell?_setCell_same' _ _ _ (by rw [hc6]; rfl)⟩, hB.setCell (p := ⟨w.heap.size + 1, 0, none⟩) (Nat.le_succ _) _⟩
    · have hq' : (xv / 16 == (loc : Int)) = false := by simpa using hq
      have HQ := hid hq
      clear hq
      gi_wp2
      exact ⟨KeepsFrom.refl _ _, Below.refl _ _, ⟨fun y hy => (List.mem_append.1 hy).elim (HII.out.1 y) (fun e => by simp at e; subst e; exact HQ.out), hc5, hc6, hf6⟩, hB⟩
  case done =>
    rintro D ys W hD rfl ⟨hI, hB⟩ hDK
    have HII := hid hI
    obtain ⟨_, hc5, hc6, hf6⟩ := hI
    have hcm := (hB.cell (p := ⟨g, 13 + loc, none⟩) hgl).trans HCM.out
    have hl3 : (loc : Int) < 3 := by omega
    have HDK := hid hDK
    have HC6 := hid hc6
    have HB := hid hB
    have HDD := hid hD
    clear hDK hB hD
    go_wp2_with fail
    refine wp_region_mix (by kernel_rfl) (by kernel_rfl) ?_
    repeat (with_reducible refine wpMix_rd rfl rfl (fun K hK => ?_); go_simp; (try go_bits); refine hK _ ?_; clear hK K)
    (with_reducible refine wpMix_act (o := ⟨_, .store _ _ _, _, _, _, _⟩) rfl rfl (fun K hK => ?_))
    go_simp
    refine hK _ _ ?_
    clear hK K
    (with_reducible refine wpMix_nil ?_)
    go_wp2_with fail
    have hK' := (KeepsOthers.setCell W ⟨w.heap.size + 1, 0, none⟩ (.int .u8 mv)).same D _ HDK.out rfl
    have hK2 : (W.setCell ⟨w.heap.size + 1, 0, none⟩ (.int .u8 mv)).drew.heap[D]? = some (.deferred (some [])) := hK'
    refine ⟨by simp, .inl ⟨_, _, rfl, run_takeDeferred hK2, ?_⟩⟩
    have hc0 : (W.setCell ⟨w.heap.size + 1, 0, none⟩ (.int .u8 mv)).drew.cell? ⟨w.heap.size + 1, 0, none⟩ = some (.int .u8 mv) := World.cell?_setCell_same' W ⟨w.heap.size + 1, 0, none⟩ (.int .u8 mv) (by rw [HC6.out]; rfl)
    have hc9 := cell_kept hc0 (grownBy_putObj' _ D (.deferred none)) (fun r e => by cases e; exact ⟨_, hK2, rfl⟩)
    have hb9 : Below w.heap.size w (W.setCell ⟨w.heap.size + 1, 0, none⟩ (.int .u8 mv)).drew := below_drewN 1 (HB.out.setCell (p := ⟨w.heap.size + 1, 0, none⟩) (Nat.le_succ _) _)
    refine ⟨.int .u8 mv, ?_, ⟨?_, hb9.trans (belowK_b (w := w) (Nat.le_refl _) _ D _ _ (by have := HDD.out; omega) hK2 rfl rfl)⟩⟩
    · simp [results, Try.f132, go_sem, hc9]
    · rw [HSEE.out, inBuf_none (fun e he hl => ?_)]
      · rfl
      · obtain ⟨j, hj⟩ := List.mem_iff_getElem?.1 he
        have hjl := (List.getElem?_eq_some_iff.1 hj).1
        have hbl2 : (bytesB R).length = R.length := by simp [bytesB]
        have hx := HII.out.1 (bwd (bytesB R) hz8 (bytesB R).length (R.length - 1 - j)) (by
          unfold upto
          exact List.mem_map.2 ⟨_, List.mem_range.2 (by omega), rfl⟩)
        apply hx
        have hg := bytes_at (k := (bytesB R).length - 1 - (R.length - 1 - j)) (show R[(bytesB R).length - 1 - (R.length - 1 - j)]? = some e from by rw [show (bytesB R).length - 1 - (R.length - 1 - j) = j by omega]; exact hj)
        have hen := HENT.out e he
        show ((bytesB R)[(bytesB R).length - 1 - (R.length - 1 - j)]?.getD 0) / 16 = _
        rw [hg]
        omega
  case stop =>
    rintro D c pre W hD ⟨k, hk, rfl⟩ ⟨⟨rfl, ini, last, e1, e2, e3, hcr⟩, hB⟩ hDK
    have HDK := hid hDK
    have HCR := hid hcr
    have HB := hid hB
    have HDD := hid hD
    have HE1 := hid e1
    have HE2 := hid e2
    have HE3 := hid e3
    have HKK := hid hk
    clear hDK hB hD e1 e2 e3 hcr hk
    gi_wp2
    refine ⟨by simp, .inl ⟨_, _, rfl, run_takeDeferred HDK.out, ?_⟩⟩
    have hc9 := cell_kept HCR.out (grownBy_putObj' _ D (.deferred none)) (fun r e => by cases e; exact ⟨_, HDK.out, rfl⟩)
    refine ⟨.int .u8 (last.1.2 % 16), ?_, ⟨?_, HB.out.trans (belowK_b (w := w) (Nat.le_refl _) _ D _ _ (by have := HDD.out; omega) HDK.out rfl rfl)⟩⟩
    · simp [results, Try.f132, go_sem, hc9]
    · obtain ⟨k', rfl⟩ : ∃ k', k = k' + 1 := by
        cases k with
        | zero => have := HE1.out; simp [upto] at this
        | succ k' => exact ⟨k', rfl⟩
      have hbl2 : (bytesB R).length = R.length := by simp [bytesB]
      have hk := HKK.out
      have he := HE1.out
      rw [upto_succ] at he
      obtain ⟨rfl, e5⟩ := List.append_inj' he rfl
      obtain rfl : bwd (bytesB R) hz8 (bytesB R).length k' = last := by simpa using e5
      obtain ⟨e, hel⟩ : ∃ e, R[(bytesB R).length - 1 - k']? = some e := ⟨_, List.getElem?_eq_getElem (by omega)⟩
      have hg := bytes_at hel
      have hen := HENT.out e (List.mem_of_getElem? hel)
      have h16 : (bwd (bytesB R) hz8 (bytesB R).length k').1.2 = e.1 * 16 + e.2 := hg
      have h3 := HE3.out
      rw [h16] at h3
      rw [HSEE.out, inBuf_at hel (by omega) (fun j e' hj he' hl => ?_), h16]
      · show Ending.returned (.int .u8 ((e.1 * 16 + e.2) % 16)) = Ending.returned (.int .u8 e.2)
        rw [show (e.1 * 16 + e.2) % 16 = e.2 by omega]
      · have hjl := (List.getElem?_eq_some_iff.1 he').1
        have hx := HE2.out (bwd (bytesB R) hz8 (bytesB R).length (R.length - 1 - j)) (by
          unfold upto
          exact List.mem_map.2 ⟨_, List.mem_range.2 (by omega), rfl⟩)
        apply hx
        have hg' := bytes_at (k := (bytesB R).length - 1 - (R.length - 1 - j)) (show R[(bytesB R).length - 1 - (R.length - 1 - j)]? = some e' from by rw [show (bytesB R).length - 1 - (R.length - 1 - j) = j by omega]; exact he')
        have hen' := HENT.out e' (List.mem_of_getElem? he')
        show ((bytesB R)[(bytesB R).length - 1 - (R.length - 1 - j)]?.getD 0) / 16 = _
        rw [hg']
        omega
end Go.Proofs.Ytbncmeggnhggkaa
