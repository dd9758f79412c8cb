/-
  PROVED HERE: what slices.Backward over bytes hands back. CONDITIONS: as each theorem states.
-/
import Derived.RangeFuncBox
import Derived.RangeFuncLeaves
import Derived.Shelf.Abstract
import Derived.WalkKit
import Derived.OwnWalkIn
import Derived.TacticsInMore
import Derived.LoopNIn
import Derived.LoopIn
import Derived.Test.YtbncmeggnhggkaaIba
namespace Go.Proofs.Ytbncmeggnhggkaa
open Go.RowKit Go.Shelf
attribute [local go_sem] Oper.semAt_some
set_option linter.unusedVariables false
set_option linter.unusedSimpArgs false

/-- What has come when k rounds are over. -/
def upto {α : Type} (f : Nat → α) (k : Nat) : List α := (List.range k).map f
theorem upto_succ {α : Type} (f : Nat → α) (k : Nat) : upto f (k + 1) = upto f k ++ [f k] := by simp [upto, List.range_succ]
theorem upto_length {α : Type} (f : Nat → α) (k : Nat) : (upto f k).length = k := by simp [upto]
/-- An index and a byte. -/
abbrev B8 := { x : Int × Int // 0 ≤ x.2 ∧ x.2 ≤ 255 }
def bwd (zs : List Int) (hz : ∀ j : Nat, 0 ≤ zs[j]?.getD 0 ∧ zs[j]?.getD 0 ≤ 255) (len : Nat) (j : Nat) : B8 := ⟨((len : Int) - 1 - (j : Int), zs[len - 1 - j]?.getD 0), hz _⟩

set_option maxRecDepth 100000 in
set_option maxHeartbeats 2000000 in
theorem back1_in (F : Fence) (n : Nat) (h7 : F.fn 140) (hro : F.round = none) (hn : 1 ≤ n) (l Bs n₀ b off len cap : Nat) (zs : List Int) (hz8 : ∀ j : Nat, 0 ≤ zs[j]?.getD 0 ∧ zs[j]?.getD 0 ≤ 255) (hlen : len ≤ 1000) (hb : b < n₀) (hBn : Bs < n₀) (J Jx : List B8 → World → Prop)
    (hY : ∀ pre x W, J pre W → pre.length < len → YieldAt F (n - 1) Try.prog l #[.int .i64 x.1.1, .int .u8 x.1.2] W fun e W' =>
      (e = .returned (.bool true) ∧ J (pre ++ [x]) W' ∧ Below n₀ W W') ∨ (e = .returned (.bool false) ∧ Jx (pre ++ [x]) W'))
    (W : World) (hBs : W.cell? ⟨Bs, 0, none⟩ = some (.slice (some ⟨b, off, none⟩) len cap)) (hc : ∀ j, j < len → W.cell? ⟨b, off + j, none⟩ = some (.int .u8 (zs[j]?.getD 0))) (h0 : J [] W) :
    CallsIn F n Try.prog 140 #[.func (.yield l) #[] #[], .pointer (some ⟨Bs, 0, none⟩)] W fun e W' => (∃ v, e = .returned v) ∧
      ((∃ ys, ys = upto (bwd zs hz8 len) len ∧ J ys W') ∨ (∃ pre, (∃ k, k ≤ len ∧ pre = upto (bwd zs hz8 len) k) ∧ Jx pre W')) := by
  refine callsIn_of_wp Try.func140 rfl h7 ?_ hro
  simp only [Try.ntmps140, List.size_toArray, List.length_cons, List.length_nil, Nat.reduceAdd, Nat.reduceSub, Array.replicate_succ, Array.replicate_zero, List.push_toArray, List.append_toArray, List.nil_append, List.cons_append]
  gi_wp2
  gi_loopw [3] (fun i wr => ∃ k : Nat, k ≤ len ∧ i = .int .i64 ((len : Int) - 1 - (k : Int)) ∧ J (upto (bwd zs hz8 len) k) wr ∧ Below n₀ W wr)
    (fun i _ => (intOf i + 1).toNat)
  case atStart => exact ⟨0, Nat.zero_le _, by simp, h0, Below.refl _ _⟩
  case round =>
    obtain ⟨k, hk, rfl, hJs, hnx⟩ := hrel
    by_cases hlt : k < len
    · obtain ⟨i, hi1, hi2⟩ : ∃ i : Nat, (len : Int) - 1 - (k : Int) = (i : Int) ∧ i = len - 1 - k := ⟨len - 1 - k, by omega, rfl⟩
      have hil : (i : Int) < (len : Int) := by omega
      have hi0 : (0 : Int) ≤ (i : Int) := by omega
      have HX := hid (show bwd zs hz8 len k = ⟨((i : Int), zs[i]?.getD 0), hz8 i⟩ from by unfold bwd; apply Subtype.ext; simp only [hi1, ← hi2])
      have hcx0 := (hnx.cell (p := ⟨b, off + i, none⟩) hb).trans (hc i (by omega))
      have hbx := (hnx.cell (p := ⟨Bs, 0, none⟩) hBn).trans hBs
      have HI1 := hid hi1
      obtain ⟨z, hzi, hcx, hS⟩ : ∃ (z : Int) (hzi : 0 ≤ z ∧ z ≤ 255), wr.cell? ⟨b, off + i, none⟩ = some (.int .u8 z) ∧ upto (bwd zs hz8 len) (k + 1) = upto (bwd zs hz8 len) k ++ [⟨((i : Int), z), hzi⟩] :=
        ⟨_, hz8 i, hcx0, by rw [upto_succ, HX.out]⟩
      have HS := hid hS
      obtain ⟨fn, tmps, assign, body, hy, hR⟩ := hY _ ⟨((i : Int), z), hzi⟩ wr hJs (by rw [upto_length]; exact hlt)
      dsimp only at hy
      rw [hi1]
      clear hi1 hi2 hS hcx0
      gi_wp2
      refine hR.mono ?_
      rintro e W3 (⟨rfl, hJ3, hk3⟩ | ⟨rfl, hJx3⟩)
      · gi_wp2
        go_roundw
        case rel => exact ⟨k + 1, by omega, by have := HI1.out; first | (simp; done) | (simp; omega) | (congr 1; done) | (congr 1; omega), by rw [HS.out]; exact hJ3, hnx.trans hk3⟩
        case measure => simp [intOf]
      · gi_wp2
        refine bodyPost_ret (results_none rfl _ _ _) rfl ?_
        refine ⟨⟨_, rfl⟩, .inr ?_⟩
        rw [← HS.out] at hJx3
        first
          | exact ⟨_, ⟨k + 1, by omega, rfl⟩, hJx3⟩
          | exact ⟨k + 1, by omega, hJx3⟩
    · obtain rfl : k = len := by omega
      have hneg : ¬ ((0 : Int) ≤ (k : Int) - 1 - (k : Int)) := by omega
      gi_wp2
      go_end0
      exact ⟨⟨_, rfl⟩, .inl (by first | exact hJs | exact ⟨_, rfl, hJs⟩)⟩
/-- The slice value sv holds the bytes zs, in a block below n₀; or it is nil and there are none. -/
def Byts (n₀ : Nat) (W : World) (sv : Value) (zs : List Int) : Prop :=
  (zs = [] ∧ ∃ a cap, sv = .slice a 0 cap) ∨ ∃ b off cap, sv = .slice (some ⟨b, off, none⟩) zs.length cap ∧ b < n₀ ∧ ∀ j, j < zs.length → W.cell? ⟨b, off + j, none⟩ = some (.int .u8 (zs[j]?.getD 0))
theorem Byts.below {n₀ : Nat} {A B : World} (h : Below n₀ A B) {sv : Value} {zs : List Int} : Byts n₀ A sv zs → Byts n₀ B sv zs
  | .inl e => .inl e
  | .inr ⟨b, off, cap, e, hb, hc⟩ => .inr ⟨b, off, cap, e, hb, fun j hj => (h.cell (p := ⟨b, off + j, none⟩) hb).trans (hc j hj)⟩
set_option maxRecDepth 100000 in
set_option maxHeartbeats 1000000 in
theorem back1_nil_in (F : Fence) (n : Nat) (h7 : F.fn 140) (hro : F.round = none) (l Bs : Nat) (a : Option Addr) (cap : Nat) (J : List B8 → World → Prop) (W : World) (hBs : W.cell? ⟨Bs, 0, none⟩ = some (.slice a 0 cap)) (h0 : J [] W) :
    CallsIn F n Try.prog 140 #[.func (.yield l) #[] #[], .pointer (some ⟨Bs, 0, none⟩)] W fun e W' => (∃ v, e = .returned v) ∧ J [] W' := by
  refine callsIn_of_wp Try.func140 rfl h7 ?_ hro
  simp only [Try.ntmps140, List.size_toArray, List.length_cons, List.length_nil, Nat.reduceAdd, Nat.reduceSub, Array.replicate_succ, Array.replicate_zero, List.push_toArray, List.append_toArray, List.nil_append, List.cons_append]
  gi_wp2
  gi_loopw [3] (fun i wr => i = .int .i64 (-1) ∧ J [] wr) (fun _ _ => 0)
  case atStart => exact ⟨rfl, h0⟩
  case round =>
    obtain ⟨rfl, hJs⟩ := hrel
    gi_wp2
    go_end0
    exact ⟨⟨_, rfl⟩, hJs⟩
theorem back_stops (F : Fence) (n : Nat) (h7 : F.fn 140) (hro : F.round = none) (hn : 1 ≤ n) (Bs n₀ : Nat) (sv : Value) (zs : List Int) (hz8 : ∀ j : Nat, 0 ≤ zs[j]?.getD 0 ∧ zs[j]?.getD 0 ≤ 255) (hlen : zs.length ≤ 1000) (w : World) (hBs : Bs < n₀) (hn₀ : n₀ ≤ w.heap.size)
    (hc : w.cell? ⟨Bs, 0, none⟩ = some sv) (hI : Byts n₀ w sv zs) :
    SeqStopsK F n Try.prog 140 #[.pointer (some ⟨Bs, 0, none⟩)] (fun x : B8 => #[Value.int .i64 x.1.1, Value.int .u8 x.1.2]) (Below n₀) (fun ys => ys = upto (bwd zs hz8 zs.length) zs.length)
      (fun pre => ∃ k, k ≤ zs.length ∧ pre = upto (bwd zs hz8 zs.length) k) zs.length w := fun l J Jx W hW _ _ hY h0 => by
  have hc' := (hW.cell (p := ⟨Bs, 0, none⟩) (by show Bs < _; omega)).trans hc
  rcases hI.below (hW.mono hn₀) with ⟨rfl, a, cap, rfl⟩ | ⟨b, off, cap, rfl, hb, hcs⟩
  · exact (back1_nil_in F n h7 hro l Bs a cap J W hc' h0).mono fun e W' ⟨he, hj⟩ => ⟨he, .inl ⟨_, rfl, hj⟩⟩
  · exact back1_in F n h7 hro hn l Bs n₀ b off zs.length cap zs hz8 hlen hb hBs J Jx hY W hc' hcs h0
end Go.Proofs.Ytbncmeggnhggkaa
