/-
  PROVED HERE: what spec.l1Place and spec.l1Parse do. CONDITIONS: as each theorem states.
-/
import Derived.Test.YthlmfjoiicnomaaDrj
namespace Go.Proofs.Ythlmfjoiicnomaa
open Go.RowKit
set_option linter.unusedVariables false
set_option linter.unusedSimpArgs false

/-- The place of byte k of a text among the letters from c on, or -1. -/
def placeS (s : ByteArray) (k c m : Nat) : Int :=
  if h : k < s.size then (if s[k].toNat < c ∨ m < s[k].toNat - c then -1 else (s[k].toNat : Int) - c) else -1
theorem place_out {s : ByteArray} {k c m : Nat} (h : ¬ k < s.size) : placeS s k c m = -1 := by unfold placeS; rw [dif_neg h]
theorem place_low {s : ByteArray} {k c m : Nat} (h : k < s.size) (h1 : s[k].toNat < c) : placeS s k c m = -1 := by unfold placeS; rw [dif_pos h, if_pos (.inl h1)]
theorem place_high {s : ByteArray} {k c m : Nat} (h : k < s.size) (h1 : m < s[k].toNat - c) : placeS s k c m = -1 := by unfold placeS; rw [dif_pos h, if_pos (.inr h1)]
theorem place_in {s : ByteArray} {k c m : Nat} (h : k < s.size) (h1 : c ≤ s[k].toNat) (h2 : s[k].toNat - c ≤ m) : placeS s k c m = (s[k].toNat : Int) - c := by unfold placeS; rw [dif_pos h, if_neg (by omega)]

set_option maxHeartbeats 1600000 in
theorem l1Place_c (w : World) (s : ByteArray) (k c m : Nat) (hk : k ≤ 10) (hc : c < 256) (hm : m ≤ 10) (hs : s.size ≤ 1048576) :
    Calls Try.prog 103 #[.string s, .int .i64 k, .int .u8 c, .int .i64 m] w fun e w' => e = .returned (.int .i64 (placeS s k c m)) ∧ Below w.heap.size w w' := by
  by_cases h : k < s.size
  · have h0 : decide ((s.size : Int) ≤ (k : Int)) = false := by rw [decide_eq_false_iff_not]; omega
    have HB := hid (Below.refl w.heap.size w)
    have hb : s[k].toNat < 256 := UInt8.toNat_lt _
    by_cases h1 : s[k].toNat < c
    · have HR := hid (place_low (m := m) h h1)
      have i1 : ((s[k].toNat : Int) < (c : Int)) := by omega
      clear h1
      go_enter Try.func103, Try.ntmps103
      go_wp2_with fail
      go_ret
      exact ⟨ret_int HR.out.symm, HB.out⟩
    · by_cases h2 : m < s[k].toNat - c
      · have HR := hid (place_high h h2)
        have i1 : decide ((s[k].toNat : Int) < (c : Int)) = false := by rw [decide_eq_false_iff_not]; omega
        have i2 : ((m : Int) < (s[k].toNat : Int) - (c : Int)) := by omega
        clear h1 h2
        go_enter Try.func103, Try.ntmps103
        go_wp2_with fail
        go_ret
        exact ⟨ret_int HR.out.symm, HB.out⟩
      · have HR := hid (place_in (c := c) (m := m) h (by omega) (by omega))
        have i1 : decide ((s[k].toNat : Int) < (c : Int)) = false := by rw [decide_eq_false_iff_not]; omega
        have i2 : decide ((m : Int) < (s[k].toNat : Int) - (c : Int)) = false := by rw [decide_eq_false_iff_not]; omega
        have i3 : (c : Int) ≤ (s[k].toNat : Int) := by omega
        clear h1 h2
        go_enter Try.func103, Try.ntmps103
        go_wp2_with fail
        go_ret
        exact ⟨ret_int HR.out.symm, HB.out⟩
  · have HR := hid (place_out (c := c) (m := m) h)
    have h0 : ((s.size : Int) ≤ (k : Int)) := by omega
    clear h
    go_enter Try.func103, Try.ntmps103
    go_wp2_with fail
    go_ret
    exact ⟨ret_int HR.out.symm, Below.refl _ _⟩

def fenceT : ByteArray := ⟨#[102, 101, 110, 99, 101]⟩
/-- The instruction of a text. -/
def parI (s : ByteArray) : Ins :=
  if s = fenceT then ⟨4, 0, 0, 0⟩
  else if 0 ≤ placeS s 0 97 2 ∧ s.size = 3 then ⟨1, placeS s 2 120 2, placeS s 0 97 2, 0⟩
  else if 0 ≤ placeS s 0 97 2 ∧ s.size = 5 then ⟨5, placeS s 2 120 2, placeS s 0 97 2, placeS s 4 48 3⟩
  else if 0 ≤ placeS s 0 120 2 ∧ 0 ≤ placeS s 2 97 2 then ⟨3, placeS s 0 120 2, placeS s 2 97 2, 0⟩
  else ⟨2, placeS s 0 120 2, 0, placeS s 2 48 3⟩
set_option maxHeartbeats 1600000 in
theorem parse_fence (w : World) (s : ByteArray) (hs : s.size ≤ 1048576) (hf : s = fenceT) :
    Calls Try.prog 84 #[.string s] w fun e w' => e = .returned (Ins.v ⟨4, 0, 0, 0⟩) ∧ Below w.heap.size w w' := by
  have n0 : (s.toList == [102, 101, 110, 99, 101]) = true := by rw [hf, ByteArray.toList_eq]; rfl
  clear hf
  have HB0 := hid ((Below.refl w.heap.size w).alloc (Nat.le_refl _) (.cells #[.int .i64 0, .int .i64 0, .int .i64 0, .int .i64 0] 70))
  have HZ0 := hid (show Blk4 (w.alloc (.cells #[.int .i64 0, .int .i64 0, .int .i64 0, .int .i64 0] 70)) w.heap.size 0 0 0 0 from heap_alloc_new w _)
  go_enter Try.func84, Try.ntmps84
  go_wp2_with fail
  exact bodyPost_ret (v := .agg #[.int .i64 4, .int .i64 0, .int .i64 0, .int .i64 0]) (by simp [results, Try.results84, go_sem]) rfl ⟨rfl, (Below.refl _ _).alloc (Nat.le_refl _) _⟩

set_option maxHeartbeats 1600000 in
theorem parse_load (w : World) (s : ByteArray) (hs : s.size ≤ 1048576) (hf : s ≠ fenceT) (hR : 0 ≤ placeS s 0 97 2) (h3 : s.size = 3) :
    Calls Try.prog 84 #[.string s] w fun e w' => e = .returned (Ins.v ⟨1, placeS s 2 120 2, placeS s 0 97 2, 0⟩) ∧ Below w.heap.size w w' := by
  obtain ⟨R, eR⟩ : ∃ R, R = placeS s 0 97 2 := ⟨_, rfl⟩
  have HR := hid (fun w => (show Calls Try.prog 103 #[.string s, .int .i64 0, .int .u8 97, .int .i64 2] w _ from l1Place_c w s 0 97 2 (by decide) (by decide) (by decide) hs))
  obtain ⟨L, eL⟩ : ∃ L, L = placeS s 0 120 2 := ⟨_, rfl⟩
  have HL := hid (fun w => (show Calls Try.prog 103 #[.string s, .int .i64 0, .int .u8 120, .int .i64 2] w _ from l1Place_c w s 0 120 2 (by decide) (by decide) (by decide) hs))
  obtain ⟨X, eX⟩ : ∃ X, X = placeS s 2 120 2 := ⟨_, rfl⟩
  have HX := hid (fun w => (show Calls Try.prog 103 #[.string s, .int .i64 2, .int .u8 120, .int .i64 2] w _ from l1Place_c w s 2 120 2 (by decide) (by decide) (by decide) hs))
  rw [← eR] at HR
  rw [← eL] at HL
  rw [← eX] at HX
  have n0 : (s.toList == [102, 101, 110, 99, 101]) = false := by rw [beq_eq_false_iff_ne, ByteArray.toList_eq]; intro e; exact hf (ByteArray.ext (Array.toList_inj.1 e))
  have tR : 0 ≤ R := by rw [eR]; exact hR
  have z3 : ((s.size : Int) == 3) = true := by simp; omega
  have GR := hid eR
  have GL := hid eL
  have GX := hid eX
  clear eR eL eX hf hR h3
  have HB0 := hid ((Below.refl w.heap.size w).alloc (Nat.le_refl _) (.cells #[.int .i64 0, .int .i64 0, .int .i64 0, .int .i64 0] 70))
  have HZ0 := hid (show Blk4 (w.alloc (.cells #[.int .i64 0, .int .i64 0, .int .i64 0, .int .i64 0] 70)) w.heap.size 0 0 0 0 from heap_alloc_new w _)
  go_enter Try.func84, Try.ntmps84
  go_wp2_with fail
  refine (HR.out _).mono ?_
  rintro e w1 ⟨rfl, hb1⟩
  have HB1 := hid (HB0.out.trans (hb1.mono (by simp)))
  have HZ1 := hid (show Blk4 w1 w.heap.size 0 0 0 0 from (hb1.block w.heap.size (by simp)).trans HZ0.out)
  have hl1 : w.heap.size < w1.heap.size := by have := hb1.size; simp at this; omega
  clear hb1
  go_wp2_with fail
  refine (HL.out _).mono ?_
  rintro e w2 ⟨rfl, hb2⟩
  have HB2 := hid (HB1.out.trans (hb2.mono (by omega)))
  have HZ2 := hid (show Blk4 w2 w.heap.size 0 0 0 0 from (hb2.block w.heap.size (by omega)).trans HZ1.out)
  have hl2 : w.heap.size < w2.heap.size := by have := hb2.size; omega
  clear hb2
  go_wp2_with fail
  refine (HX.out _).mono ?_
  rintro e w3 ⟨rfl, hb3⟩
  have HB3 := hid (HB2.out.trans (hb3.mono (by omega)))
  have HZ3 := hid (show Blk4 w3 w.heap.size 0 0 0 0 from (hb3.block w.heap.size (by omega)).trans HZ2.out)
  have hl3 : w.heap.size < w3.heap.size := by have := hb3.size; omega
  clear hb3
  have HP := hid (HZ3.out.put (1) (X) (R) (0))
  obtain ⟨⟨p0, p1, p2, p3⟩, _⟩ := HP.out.facts
  obtain ⟨⟨z0, z1, z2, z3⟩, y0, y1, y2, y3⟩ := HZ3.out.facts
  have HF := hid (below_put HB3.out (Nat.le_refl _) (1) (X) (R) (0))
  go_wp2_with fail
  exact bodyPost_ret (v := .agg #[.int .i64 (1), .int .i64 (X), .int .i64 (R), .int .i64 (0)]) (by simp [results, Try.results84, go_sem, p0, p1, p2, p3]) rfl ⟨by rw [← GR.out]; rw [← GX.out]; first | rfl | skip, HF.out⟩

set_option maxHeartbeats 1600000 in
theorem parse_swap (w : World) (s : ByteArray) (hs : s.size ≤ 1048576) (hf : s ≠ fenceT) (hR : 0 ≤ placeS s 0 97 2) (h3 : s.size = 5) :
    Calls Try.prog 84 #[.string s] w fun e w' => e = .returned (Ins.v ⟨5, placeS s 2 120 2, placeS s 0 97 2, placeS s 4 48 3⟩) ∧ Below w.heap.size w w' := by
  obtain ⟨R, eR⟩ : ∃ R, R = placeS s 0 97 2 := ⟨_, rfl⟩
  have HR := hid (fun w => (show Calls Try.prog 103 #[.string s, .int .i64 0, .int .u8 97, .int .i64 2] w _ from l1Place_c w s 0 97 2 (by decide) (by decide) (by decide) hs))
  obtain ⟨L, eL⟩ : ∃ L, L = placeS s 0 120 2 := ⟨_, rfl⟩
  have HL := hid (fun w => (show Calls Try.prog 103 #[.string s, .int .i64 0, .int .u8 120, .int .i64 2] w _ from l1Place_c w s 0 120 2 (by decide) (by decide) (by decide) hs))
  obtain ⟨X, eX⟩ : ∃ X, X = placeS s 2 120 2 := ⟨_, rfl⟩
  have HX := hid (fun w => (show Calls Try.prog 103 #[.string s, .int .i64 2, .int .u8 120, .int .i64 2] w _ from l1Place_c w s 2 120 2 (by decide) (by decide) (by decide) hs))
  obtain ⟨E, eE⟩ : ∃ E, E = placeS s 4 48 3 := ⟨_, rfl⟩
  have HE := hid (fun w => (show Calls Try.prog 103 #[.string s, .int .i64 4, .int .u8 48, .int .i64 3] w _ from l1Place_c w s 4 48 3 (by decide) (by decide) (by decide) hs))
  rw [← eR] at HR
  rw [← eL] at HL
  rw [← eX] at HX
  rw [← eE] at HE
  have n0 : (s.toList == [102, 101, 110, 99, 101]) = false := by rw [beq_eq_false_iff_ne, ByteArray.toList_eq]; intro e; exact hf (ByteArray.ext (Array.toList_inj.1 e))
  have tR : 0 ≤ R := by rw [eR]; exact hR
  have z3 : ((s.size : Int) == 3) = false := by simp; omega
  have z5 : ((s.size : Int) == 5) = true := by simp; omega
  have GR := hid eR
  have GL := hid eL
  have GX := hid eX
  have GE := hid eE
  clear eR eL eX eE hf hR h3
  have HB0 := hid ((Below.refl w.heap.size w).alloc (Nat.le_refl _) (.cells #[.int .i64 0, .int .i64 0, .int .i64 0, .int .i64 0] 70))
  have HZ0 := hid (show Blk4 (w.alloc (.cells #[.int .i64 0, .int .i64 0, .int .i64 0, .int .i64 0] 70)) w.heap.size 0 0 0 0 from heap_alloc_new w _)
  go_enter Try.func84, Try.ntmps84
  go_wp2_with fail
  refine (HR.out _).mono ?_
  rintro e w1 ⟨rfl, hb1⟩
  have HB1 := hid (HB0.out.trans (hb1.mono (by simp)))
  have HZ1 := hid (show Blk4 w1 w.heap.size 0 0 0 0 from (hb1.block w.heap.size (by simp)).trans HZ0.out)
  have hl1 : w.heap.size < w1.heap.size := by have := hb1.size; simp at this; omega
  clear hb1
  go_wp2_with fail
  refine (HL.out _).mono ?_
  rintro e w2 ⟨rfl, hb2⟩
  have HB2 := hid (HB1.out.trans (hb2.mono (by omega)))
  have HZ2 := hid (show Blk4 w2 w.heap.size 0 0 0 0 from (hb2.block w.heap.size (by omega)).trans HZ1.out)
  have hl2 : w.heap.size < w2.heap.size := by have := hb2.size; omega
  clear hb2
  go_wp2_with fail
  refine (HX.out _).mono ?_
  rintro e w3 ⟨rfl, hb3⟩
  have HB3 := hid (HB2.out.trans (hb3.mono (by omega)))
  have HZ3 := hid (show Blk4 w3 w.heap.size 0 0 0 0 from (hb3.block w.heap.size (by omega)).trans HZ2.out)
  have hl3 : w.heap.size < w3.heap.size := by have := hb3.size; omega
  clear hb3
  go_wp2_with fail
  refine (HE.out _).mono ?_
  rintro e w4 ⟨rfl, hb4⟩
  have HB4 := hid (HB3.out.trans (hb4.mono (by omega)))
  have HZ4 := hid (show Blk4 w4 w.heap.size 0 0 0 0 from (hb4.block w.heap.size (by omega)).trans HZ3.out)
  have hl4 : w.heap.size < w4.heap.size := by have := hb4.size; omega
  clear hb4
  have HP := hid (HZ4.out.put (5) (X) (R) (E))
  obtain ⟨⟨p0, p1, p2, p3⟩, _⟩ := HP.out.facts
  obtain ⟨⟨z0, z1, z2, z3⟩, y0, y1, y2, y3⟩ := HZ4.out.facts
  have HF := hid (below_put HB4.out (Nat.le_refl _) (5) (X) (R) (E))
  go_wp2_with fail
  exact bodyPost_ret (v := .agg #[.int .i64 (5), .int .i64 (X), .int .i64 (R), .int .i64 (E)]) (by simp [results, Try.results84, go_sem, p0, p1, p2, p3]) rfl ⟨by rw [← GR.out]; rw [← GX.out]; rw [← GE.out]; first | rfl | skip, HF.out⟩

set_option maxHeartbeats 1600000 in
theorem parse_copy_y (w : World) (s : ByteArray) (hs : s.size ≤ 1048576) (hf : s ≠ fenceT) (hR : 0 ≤ placeS s 0 97 2) (h3 : s.size ≠ 3) (h5 : s.size ≠ 5) (hL : 0 ≤ placeS s 0 120 2) (hA : 0 ≤ placeS s 2 97 2) :
    Calls Try.prog 84 #[.string s] w fun e w' => e = .returned (Ins.v ⟨3, placeS s 0 120 2, placeS s 2 97 2, 0⟩) ∧ Below w.heap.size w w' := by
  obtain ⟨R, eR⟩ : ∃ R, R = placeS s 0 97 2 := ⟨_, rfl⟩
  have HR := hid (fun w => (show Calls Try.prog 103 #[.string s, .int .i64 0, .int .u8 97, .int .i64 2] w _ from l1Place_c w s 0 97 2 (by decide) (by decide) (by decide) hs))
  obtain ⟨L, eL⟩ : ∃ L, L = placeS s 0 120 2 := ⟨_, rfl⟩
  have HL := hid (fun w => (show Calls Try.prog 103 #[.string s, .int .i64 0, .int .u8 120, .int .i64 2] w _ from l1Place_c w s 0 120 2 (by decide) (by decide) (by decide) hs))
  obtain ⟨A, eA⟩ : ∃ A, A = placeS s 2 97 2 := ⟨_, rfl⟩
  have HA := hid (fun w => (show Calls Try.prog 103 #[.string s, .int .i64 2, .int .u8 97, .int .i64 2] w _ from l1Place_c w s 2 97 2 (by decide) (by decide) (by decide) hs))
  rw [← eR] at HR
  rw [← eL] at HL
  rw [← eA] at HA
  have n0 : (s.toList == [102, 101, 110, 99, 101]) = false := by rw [beq_eq_false_iff_ne, ByteArray.toList_eq]; intro e; exact hf (ByteArray.ext (Array.toList_inj.1 e))
  have tR : 0 ≤ R := by rw [eR]; exact hR
  have z3 : ((s.size : Int) == 3) = false := by simp; omega
  have z5 : ((s.size : Int) == 5) = false := by simp; omega
  have tL : 0 ≤ L := by rw [eL]; exact hL
  have tA : 0 ≤ A := by rw [eA]; exact hA
  have GR := hid eR
  have GL := hid eL
  have GA := hid eA
  clear eR eL eA hf hR h3 h5 hL hA
  have HB0 := hid ((Below.refl w.heap.size w).alloc (Nat.le_refl _) (.cells #[.int .i64 0, .int .i64 0, .int .i64 0, .int .i64 0] 70))
  have HZ0 := hid (show Blk4 (w.alloc (.cells #[.int .i64 0, .int .i64 0, .int .i64 0, .int .i64 0] 70)) w.heap.size 0 0 0 0 from heap_alloc_new w _)
  go_enter Try.func84, Try.ntmps84
  go_wp2_with fail
  refine (HR.out _).mono ?_
  rintro e w1 ⟨rfl, hb1⟩
  have HB1 := hid (HB0.out.trans (hb1.mono (by simp)))
  have HZ1 := hid (show Blk4 w1 w.heap.size 0 0 0 0 from (hb1.block w.heap.size (by simp)).trans HZ0.out)
  have hl1 : w.heap.size < w1.heap.size := by have := hb1.size; simp at this; omega
  clear hb1
  go_wp2_with fail
  refine (HL.out _).mono ?_
  rintro e w2 ⟨rfl, hb2⟩
  have HB2 := hid (HB1.out.trans (hb2.mono (by omega)))
  have HZ2 := hid (show Blk4 w2 w.heap.size 0 0 0 0 from (hb2.block w.heap.size (by omega)).trans HZ1.out)
  have hl2 : w.heap.size < w2.heap.size := by have := hb2.size; omega
  clear hb2
  go_wp2_with fail
  refine (HA.out _).mono ?_
  rintro e w3 ⟨rfl, hb3⟩
  have HB3 := hid (HB2.out.trans (hb3.mono (by omega)))
  have HZ3 := hid (show Blk4 w3 w.heap.size 0 0 0 0 from (hb3.block w.heap.size (by omega)).trans HZ2.out)
  have hl3 : w.heap.size < w3.heap.size := by have := hb3.size; omega
  clear hb3
  go_wp2_with fail
  refine (HA.out _).mono ?_
  rintro e w4 ⟨rfl, hb4⟩
  have HB4 := hid (HB3.out.trans (hb4.mono (by omega)))
  have HZ4 := hid (show Blk4 w4 w.heap.size 0 0 0 0 from (hb4.block w.heap.size (by omega)).trans HZ3.out)
  have hl4 : w.heap.size < w4.heap.size := by have := hb4.size; omega
  clear hb4
  have HP := hid (HZ4.out.put (3) (L) (A) (0))
  obtain ⟨⟨p0, p1, p2, p3⟩, _⟩ := HP.out.facts
  obtain ⟨⟨z0, z1, z2, z3⟩, y0, y1, y2, y3⟩ := HZ4.out.facts
  have HF := hid (below_put HB4.out (Nat.le_refl _) (3) (L) (A) (0))
  go_wp2_with fail
  exact bodyPost_ret (v := .agg #[.int .i64 (3), .int .i64 (L), .int .i64 (A), .int .i64 (0)]) (by simp [results, Try.results84, go_sem, p0, p1, p2, p3]) rfl ⟨by rw [← GL.out]; rw [← GA.out]; first | rfl | skip, HF.out⟩

set_option maxHeartbeats 1600000 in
theorem parse_sa_y (w : World) (s : ByteArray) (hs : s.size ≤ 1048576) (hf : s ≠ fenceT) (hR : 0 ≤ placeS s 0 97 2) (h3 : s.size ≠ 3) (h5 : s.size ≠ 5) (hL : 0 ≤ placeS s 0 120 2) (hA : ¬ 0 ≤ placeS s 2 97 2) :
    Calls Try.prog 84 #[.string s] w fun e w' => e = .returned (Ins.v ⟨2, placeS s 0 120 2, 0, placeS s 2 48 3⟩) ∧ Below w.heap.size w w' := by
  obtain ⟨R, eR⟩ : ∃ R, R = placeS s 0 97 2 := ⟨_, rfl⟩
  have HR := hid (fun w => (show Calls Try.prog 103 #[.string s, .int .i64 0, .int .u8 97, .int .i64 2] w _ from l1Place_c w s 0 97 2 (by decide) (by decide) (by decide) hs))
  obtain ⟨L, eL⟩ : ∃ L, L = placeS s 0 120 2 := ⟨_, rfl⟩
  have HL := hid (fun w => (show Calls Try.prog 103 #[.string s, .int .i64 0, .int .u8 120, .int .i64 2] w _ from l1Place_c w s 0 120 2 (by decide) (by decide) (by decide) hs))
  obtain ⟨A, eA⟩ : ∃ A, A = placeS s 2 97 2 := ⟨_, rfl⟩
  have HA := hid (fun w => (show Calls Try.prog 103 #[.string s, .int .i64 2, .int .u8 97, .int .i64 2] w _ from l1Place_c w s 2 97 2 (by decide) (by decide) (by decide) hs))
  obtain ⟨D, eD⟩ : ∃ D, D = placeS s 2 48 3 := ⟨_, rfl⟩
  have HD := hid (fun w => (show Calls Try.prog 103 #[.string s, .int .i64 2, .int .u8 48, .int .i64 3] w _ from l1Place_c w s 2 48 3 (by decide) (by decide) (by decide) hs))
  rw [← eR] at HR
  rw [← eL] at HL
  rw [← eA] at HA
  rw [← eD] at HD
  have n0 : (s.toList == [102, 101, 110, 99, 101]) = false := by rw [beq_eq_false_iff_ne, ByteArray.toList_eq]; intro e; exact hf (ByteArray.ext (Array.toList_inj.1 e))
  have tR : 0 ≤ R := by rw [eR]; exact hR
  have z3 : ((s.size : Int) == 3) = false := by simp; omega
  have z5 : ((s.size : Int) == 5) = false := by simp; omega
  have tL : 0 ≤ L := by rw [eL]; exact hL
  have tA : decide (0 ≤ A) = false := by rw [eA, decide_eq_false_iff_not]; exact hA
  have GR := hid eR
  have GL := hid eL
  have GA := hid eA
  have GD := hid eD
  clear eR eL eA eD hf hR h3 h5 hL hA
  have HB0 := hid ((Below.refl w.heap.size w).alloc (Nat.le_refl _) (.cells #[.int .i64 0, .int .i64 0, .int .i64 0, .int .i64 0] 70))
  have HZ0 := hid (show Blk4 (w.alloc (.cells #[.int .i64 0, .int .i64 0, .int .i64 0, .int .i64 0] 70)) w.heap.size 0 0 0 0 from heap_alloc_new w _)
  go_enter Try.func84, Try.ntmps84
  go_wp2_with fail
  refine (HR.out _).mono ?_
  rintro e w1 ⟨rfl, hb1⟩
  have HB1 := hid (HB0.out.trans (hb1.mono (by simp)))
  have HZ1 := hid (show Blk4 w1 w.heap.size 0 0 0 0 from (hb1.block w.heap.size (by simp)).trans HZ0.out)
  have hl1 : w.heap.size < w1.heap.size := by have := hb1.size; simp at this; omega
  clear hb1
  go_wp2_with fail
  refine (HL.out _).mono ?_
  rintro e w2 ⟨rfl, hb2⟩
  have HB2 := hid (HB1.out.trans (hb2.mono (by omega)))
  have HZ2 := hid (show Blk4 w2 w.heap.size 0 0 0 0 from (hb2.block w.heap.size (by omega)).trans HZ1.out)
  have hl2 : w.heap.size < w2.heap.size := by have := hb2.size; omega
  clear hb2
  go_wp2_with fail
  refine (HA.out _).mono ?_
  rintro e w3 ⟨rfl, hb3⟩
  have HB3 := hid (HB2.out.trans (hb3.mono (by omega)))
  have HZ3 := hid (show Blk4 w3 w.heap.size 0 0 0 0 from (hb3.block w.heap.size (by omega)).trans HZ2.out)
  have hl3 : w.heap.size < w3.heap.size := by have := hb3.size; omega
  clear hb3
  go_wp2_with fail
  refine (HD.out _).mono ?_
  rintro e w4 ⟨rfl, hb4⟩
  have HB4 := hid (HB3.out.trans (hb4.mono (by omega)))
  have HZ4 := hid (show Blk4 w4 w.heap.size 0 0 0 0 from (hb4.block w.heap.size (by omega)).trans HZ3.out)
  have hl4 : w.heap.size < w4.heap.size := by have := hb4.size; omega
  clear hb4
  have HP := hid (HZ4.out.put (2) (L) (0) (D))
  obtain ⟨⟨p0, p1, p2, p3⟩, _⟩ := HP.out.facts
  obtain ⟨⟨z0, z1, z2, z3⟩, y0, y1, y2, y3⟩ := HZ4.out.facts
  have HF := hid (below_put HB4.out (Nat.le_refl _) (2) (L) (0) (D))
  go_wp2_with fail
  exact bodyPost_ret (v := .agg #[.int .i64 (2), .int .i64 (L), .int .i64 (0), .int .i64 (D)]) (by simp [results, Try.results84, go_sem, p0, p1, p2, p3]) rfl ⟨by rw [← GL.out]; rw [← GD.out]; first | rfl | skip, HF.out⟩

set_option maxHeartbeats 1600000 in
theorem parse_sb_y (w : World) (s : ByteArray) (hs : s.size ≤ 1048576) (hf : s ≠ fenceT) (hR : 0 ≤ placeS s 0 97 2) (h3 : s.size ≠ 3) (h5 : s.size ≠ 5) (hL : ¬ 0 ≤ placeS s 0 120 2) :
    Calls Try.prog 84 #[.string s] w fun e w' => e = .returned (Ins.v ⟨2, placeS s 0 120 2, 0, placeS s 2 48 3⟩) ∧ Below w.heap.size w w' := by
  obtain ⟨R, eR⟩ : ∃ R, R = placeS s 0 97 2 := ⟨_, rfl⟩
  have HR := hid (fun w => (show Calls Try.prog 103 #[.string s, .int .i64 0, .int .u8 97, .int .i64 2] w _ from l1Place_c w s 0 97 2 (by decide) (by decide) (by decide) hs))
  obtain ⟨L, eL⟩ : ∃ L, L = placeS s 0 120 2 := ⟨_, rfl⟩
  have HL := hid (fun w => (show Calls Try.prog 103 #[.string s, .int .i64 0, .int .u8 120, .int .i64 2] w _ from l1Place_c w s 0 120 2 (by decide) (by decide) (by decide) hs))
  obtain ⟨D, eD⟩ : ∃ D, D = placeS s 2 48 3 := ⟨_, rfl⟩
  have HD := hid (fun w => (show Calls Try.prog 103 #[.string s, .int .i64 2, .int .u8 48, .int .i64 3] w _ from l1Place_c w s 2 48 3 (by decide) (by decide) (by decide) hs))
  rw [← eR] at HR
  rw [← eL] at HL
  rw [← eD] at HD
  have n0 : (s.toList == [102, 101, 110, 99, 101]) = false := by rw [beq_eq_false_iff_ne, ByteArray.toList_eq]; intro e; exact hf (ByteArray.ext (Array.toList_inj.1 e))
  have tR : 0 ≤ R := by rw [eR]; exact hR
  have z3 : ((s.size : Int) == 3) = false := by simp; omega
  have z5 : ((s.size : Int) == 5) = false := by simp; omega
  have tL : decide (0 ≤ L) = false := by rw [eL, decide_eq_false_iff_not]; exact hL
  have GR := hid eR
  have GL := hid eL
  have GD := hid eD
  clear eR eL eD hf hR h3 h5 hL
  have HB0 := hid ((Below.refl w.heap.size w).alloc (Nat.le_refl _) (.cells #[.int .i64 0, .int .i64 0, .int .i64 0, .int .i64 0] 70))
  have HZ0 := hid (show Blk4 (w.alloc (.cells #[.int .i64 0, .int .i64 0, .int .i64 0, .int .i64 0] 70)) w.heap.size 0 0 0 0 from heap_alloc_new w _)
  go_enter Try.func84, Try.ntmps84
  go_wp2_with fail
  refine (HR.out _).mono ?_
  rintro e w1 ⟨rfl, hb1⟩
  have HB1 := hid (HB0.out.trans (hb1.mono (by simp)))
  have HZ1 := hid (show Blk4 w1 w.heap.size 0 0 0 0 from (hb1.block w.heap.size (by simp)).trans HZ0.out)
  have hl1 : w.heap.size < w1.heap.size := by have := hb1.size; simp at this; omega
  clear hb1
  go_wp2_with fail
  refine (HL.out _).mono ?_
  rintro e w2 ⟨rfl, hb2⟩
  have HB2 := hid (HB1.out.trans (hb2.mono (by omega)))
  have HZ2 := hid (show Blk4 w2 w.heap.size 0 0 0 0 from (hb2.block w.heap.size (by omega)).trans HZ1.out)
  have hl2 : w.heap.size < w2.heap.size := by have := hb2.size; omega
  clear hb2
  go_wp2_with fail
  refine (HD.out _).mono ?_
  rintro e w3 ⟨rfl, hb3⟩
  have HB3 := hid (HB2.out.trans (hb3.mono (by omega)))
  have HZ3 := hid (show Blk4 w3 w.heap.size 0 0 0 0 from (hb3.block w.heap.size (by omega)).trans HZ2.out)
  have hl3 : w.heap.size < w3.heap.size := by have := hb3.size; omega
  clear hb3
  have HP := hid (HZ3.out.put (2) (L) (0) (D))
  obtain ⟨⟨p0, p1, p2, p3⟩, _⟩ := HP.out.facts
  obtain ⟨⟨z0, z1, z2, z3⟩, y0, y1, y2, y3⟩ := HZ3.out.facts
  have HF := hid (below_put HB3.out (Nat.le_refl _) (2) (L) (0) (D))
  go_wp2_with fail
  exact bodyPost_ret (v := .agg #[.int .i64 (2), .int .i64 (L), .int .i64 (0), .int .i64 (D)]) (by simp [results, Try.results84, go_sem, p0, p1, p2, p3]) rfl ⟨by rw [← GL.out]; rw [← GD.out]; first | rfl | skip, HF.out⟩

set_option maxHeartbeats 1600000 in
theorem parse_copy_n (w : World) (s : ByteArray) (hs : s.size ≤ 1048576) (hf : s ≠ fenceT) (hR : ¬ 0 ≤ placeS s 0 97 2) (hL : 0 ≤ placeS s 0 120 2) (hA : 0 ≤ placeS s 2 97 2) :
    Calls Try.prog 84 #[.string s] w fun e w' => e = .returned (Ins.v ⟨3, placeS s 0 120 2, placeS s 2 97 2, 0⟩) ∧ Below w.heap.size w w' := by
  obtain ⟨R, eR⟩ : ∃ R, R = placeS s 0 97 2 := ⟨_, rfl⟩
  have HR := hid (fun w => (show Calls Try.prog 103 #[.string s, .int .i64 0, .int .u8 97, .int .i64 2] w _ from l1Place_c w s 0 97 2 (by decide) (by decide) (by decide) hs))
  obtain ⟨L, eL⟩ : ∃ L, L = placeS s 0 120 2 := ⟨_, rfl⟩
  have HL := hid (fun w => (show Calls Try.prog 103 #[.string s, .int .i64 0, .int .u8 120, .int .i64 2] w _ from l1Place_c w s 0 120 2 (by decide) (by decide) (by decide) hs))
  obtain ⟨A, eA⟩ : ∃ A, A = placeS s 2 97 2 := ⟨_, rfl⟩
  have HA := hid (fun w => (show Calls Try.prog 103 #[.string s, .int .i64 2, .int .u8 97, .int .i64 2] w _ from l1Place_c w s 2 97 2 (by decide) (by decide) (by decide) hs))
  rw [← eR] at HR
  rw [← eL] at HL
  rw [← eA] at HA
  have n0 : (s.toList == [102, 101, 110, 99, 101]) = false := by rw [beq_eq_false_iff_ne, ByteArray.toList_eq]; intro e; exact hf (ByteArray.ext (Array.toList_inj.1 e))
  have tR : decide (0 ≤ R) = false := by rw [eR, decide_eq_false_iff_not]; exact hR
  have tL : 0 ≤ L := by rw [eL]; exact hL
  have tA : 0 ≤ A := by rw [eA]; exact hA
  have GR := hid eR
  have GL := hid eL
  have GA := hid eA
  clear eR eL eA hf hR hL hA
  have HB0 := hid ((Below.refl w.heap.size w).alloc (Nat.le_refl _) (.cells #[.int .i64 0, .int .i64 0, .int .i64 0, .int .i64 0] 70))
  have HZ0 := hid (show Blk4 (w.alloc (.cells #[.int .i64 0, .int .i64 0, .int .i64 0, .int .i64 0] 70)) w.heap.size 0 0 0 0 from heap_alloc_new w _)
  go_enter Try.func84, Try.ntmps84
  go_wp2_with fail
  refine (HR.out _).mono ?_
  rintro e w1 ⟨rfl, hb1⟩
  have HB1 := hid (HB0.out.trans (hb1.mono (by simp)))
  have HZ1 := hid (show Blk4 w1 w.heap.size 0 0 0 0 from (hb1.block w.heap.size (by simp)).trans HZ0.out)
  have hl1 : w.heap.size < w1.heap.size := by have := hb1.size; simp at this; omega
  clear hb1
  go_wp2_with fail
  refine (HL.out _).mono ?_
  rintro e w2 ⟨rfl, hb2⟩
  have HB2 := hid (HB1.out.trans (hb2.mono (by omega)))
  have HZ2 := hid (show Blk4 w2 w.heap.size 0 0 0 0 from (hb2.block w.heap.size (by omega)).trans HZ1.out)
  have hl2 : w.heap.size < w2.heap.size := by have := hb2.size; omega
  clear hb2
  go_wp2_with fail
  refine (HA.out _).mono ?_
  rintro e w3 ⟨rfl, hb3⟩
  have HB3 := hid (HB2.out.trans (hb3.mono (by omega)))
  have HZ3 := hid (show Blk4 w3 w.heap.size 0 0 0 0 from (hb3.block w.heap.size (by omega)).trans HZ2.out)
  have hl3 : w.heap.size < w3.heap.size := by have := hb3.size; omega
  clear hb3
  go_wp2_with fail
  refine (HA.out _).mono ?_
  rintro e w4 ⟨rfl, hb4⟩
  have HB4 := hid (HB3.out.trans (hb4.mono (by omega)))
  have HZ4 := hid (show Blk4 w4 w.heap.size 0 0 0 0 from (hb4.block w.heap.size (by omega)).trans HZ3.out)
  have hl4 : w.heap.size < w4.heap.size := by have := hb4.size; omega
  clear hb4
  have HP := hid (HZ4.out.put (3) (L) (A) (0))
  obtain ⟨⟨p0, p1, p2, p3⟩, _⟩ := HP.out.facts
  obtain ⟨⟨z0, z1, z2, z3⟩, y0, y1, y2, y3⟩ := HZ4.out.facts
  have HF := hid (below_put HB4.out (Nat.le_refl _) (3) (L) (A) (0))
  go_wp2_with fail
  exact bodyPost_ret (v := .agg #[.int .i64 (3), .int .i64 (L), .int .i64 (A), .int .i64 (0)]) (by simp [results, Try.results84, go_sem, p0, p1, p2, p3]) rfl ⟨by rw [← GL.out]; rw [← GA.out]; first | rfl | skip, HF.out⟩

set_option maxHeartbeats 1600000 in
theorem parse_sa_n (w : World) (s : ByteArray) (hs : s.size ≤ 1048576) (hf : s ≠ fenceT) (hR : ¬ 0 ≤ placeS s 0 97 2) (hL : 0 ≤ placeS s 0 120 2) (hA : ¬ 0 ≤ placeS s 2 97 2) :
    Calls Try.prog 84 #[.string s] w fun e w' => e = .returned (Ins.v ⟨2, placeS s 0 120 2, 0, placeS s 2 48 3⟩) ∧ Below w.heap.size w w' := by
  obtain ⟨R, eR⟩ : ∃ R, R = placeS s 0 97 2 := ⟨_, rfl⟩
  have HR := hid (fun w => (show Calls Try.prog 103 #[.string s, .int .i64 0, .int .u8 97, .int .i64 2] w _ from l1Place_c w s 0 97 2 (by decide) (by decide) (by decide) hs))
  obtain ⟨L, eL⟩ : ∃ L, L = placeS s 0 120 2 := ⟨_, rfl⟩
  have HL := hid (fun w => (show Calls Try.prog 103 #[.string s, .int .i64 0, .int .u8 120, .int .i64 2] w _ from l1Place_c w s 0 120 2 (by decide) (by decide) (by decide) hs))
  obtain ⟨A, eA⟩ : ∃ A, A = placeS s 2 97 2 := ⟨_, rfl⟩
  have HA := hid (fun w => (show Calls Try.prog 103 #[.string s, .int .i64 2, .int .u8 97, .int .i64 2] w _ from l1Place_c w s 2 97 2 (by decide) (by decide) (by decide) hs))
  obtain ⟨D, eD⟩ : ∃ D, D = placeS s 2 48 3 := ⟨_, rfl⟩
  have HD := hid (fun w => (show Calls Try.prog 103 #[.string s, .int .i64 2, .int .u8 48, .int .i64 3] w _ from l1Place_c w s 2 48 3 (by decide) (by decide) (by decide) hs))
  rw [← eR] at HR
  rw [← eL] at HL
  rw [← eA] at HA
  rw [← eD] at HD
  have n0 : (s.toList == [102, 101, 110, 99, 101]) = false := by rw [beq_eq_false_iff_ne, ByteArray.toList_eq]; intro e; exact hf (ByteArray.ext (Array.toList_inj.1 e))
  have tR : decide (0 ≤ R) = false := by rw [eR, decide_eq_false_iff_not]; exact hR
  have tL : 0 ≤ L := by rw [eL]; exact hL
  have tA : decide (0 ≤ A) = false := by rw [eA, decide_eq_false_iff_not]; exact hA
  have GR := hid eR
  have GL := hid eL
  have GA := hid eA
  have GD := hid eD
  clear eR eL eA eD hf hR hL hA
  have HB0 := hid ((Below.refl w.heap.size w).alloc (Nat.le_refl _) (.cells #[.int .i64 0, .int .i64 0, .int .i64 0, .int .i64 0] 70))
  have HZ0 := hid (show Blk4 (w.alloc (.cells #[.int .i64 0, .int .i64 0, .int .i64 0, .int .i64 0] 70)) w.heap.size 0 0 0 0 from heap_alloc_new w _)
  go_enter Try.func84, Try.ntmps84
  go_wp2_with fail
  refine (HR.out _).mono ?_
  rintro e w1 ⟨rfl, hb1⟩
  have HB1 := hid (HB0.out.trans (hb1.mono (by simp)))
  have HZ1 := hid (show Blk4 w1 w.heap.size 0 0 0 0 from (hb1.block w.heap.size (by simp)).trans HZ0.out)
  have hl1 : w.heap.size < w1.heap.size := by have := hb1.size; simp at this; omega
  clear hb1
  go_wp2_with fail
  refine (HL.out _).mono ?_
  rintro e w2 ⟨rfl, hb2⟩
  have HB2 := hid (HB1.out.trans (hb2.mono (by omega)))
  have HZ2 := hid (show Blk4 w2 w.heap.size 0 0 0 0 from (hb2.block w.heap.size (by omega)).trans HZ1.out)
  have hl2 : w.heap.size < w2.heap.size := by have := hb2.size; omega
  clear hb2
  go_wp2_with fail
  refine (HA.out _).mono ?_
  rintro e w3 ⟨rfl, hb3⟩
  have HB3 := hid (HB2.out.trans (hb3.mono (by omega)))
  have HZ3 := hid (show Blk4 w3 w.heap.size 0 0 0 0 from (hb3.block w.heap.size (by omega)).trans HZ2.out)
  have hl3 : w.heap.size < w3.heap.size := by have := hb3.size; omega
  clear hb3
  go_wp2_with fail
  refine (HD.out _).mono ?_
  rintro e w4 ⟨rfl, hb4⟩
  have HB4 := hid (HB3.out.trans (hb4.mono (by omega)))
  have HZ4 := hid (show Blk4 w4 w.heap.size 0 0 0 0 from (hb4.block w.heap.size (by omega)).trans HZ3.out)
  have hl4 : w.heap.size < w4.heap.size := by have := hb4.size; omega
  clear hb4
  have HP := hid (HZ4.out.put (2) (L) (0) (D))
  obtain ⟨⟨p0, p1, p2, p3⟩, _⟩ := HP.out.facts
  obtain ⟨⟨z0, z1, z2, z3⟩, y0, y1, y2, y3⟩ := HZ4.out.facts
  have HF := hid (below_put HB4.out (Nat.le_refl _) (2) (L) (0) (D))
  go_wp2_with fail
  exact bodyPost_ret (v := .agg #[.int .i64 (2), .int .i64 (L), .int .i64 (0), .int .i64 (D)]) (by simp [results, Try.results84, go_sem, p0, p1, p2, p3]) rfl ⟨by rw [← GL.out]; rw [← GD.out]; first | rfl | skip, HF.out⟩

set_option maxHeartbeats 1600000 in
theorem parse_sb_n (w : World) (s : ByteArray) (hs : s.size ≤ 1048576) (hf : s ≠ fenceT) (hR : ¬ 0 ≤ placeS s 0 97 2) (hL : ¬ 0 ≤ placeS s 0 120 2) :
    Calls Try.prog 84 #[.string s] w fun e w' => e = .returned (Ins.v ⟨2, placeS s 0 120 2, 0, placeS s 2 48 3⟩) ∧ Below w.heap.size w w' := by
  obtain ⟨R, eR⟩ : ∃ R, R = placeS s 0 97 2 := ⟨_, rfl⟩
  have HR := hid (fun w => (show Calls Try.prog 103 #[.string s, .int .i64 0, .int .u8 97, .int .i64 2] w _ from l1Place_c w s 0 97 2 (by decide) (by decide) (by decide) hs))
  obtain ⟨L, eL⟩ : ∃ L, L = placeS s 0 120 2 := ⟨_, rfl⟩
  have HL := hid (fun w => (show Calls Try.prog 103 #[.string s, .int .i64 0, .int .u8 120, .int .i64 2] w _ from l1Place_c w s 0 120 2 (by decide) (by decide) (by decide) hs))
  obtain ⟨D, eD⟩ : ∃ D, D = placeS s 2 48 3 := ⟨_, rfl⟩
  have HD := hid (fun w => (show Calls Try.prog 103 #[.string s, .int .i64 2, .int .u8 48, .int .i64 3] w _ from l1Place_c w s 2 48 3 (by decide) (by decide) (by decide) hs))
  rw [← eR] at HR
  rw [← eL] at HL
  rw [← eD] at HD
  have n0 : (s.toList == [102, 101, 110, 99, 101]) = false := by rw [beq_eq_false_iff_ne, ByteArray.toList_eq]; intro e; exact hf (ByteArray.ext (Array.toList_inj.1 e))
  have tR : decide (0 ≤ R) = false := by rw [eR, decide_eq_false_iff_not]; exact hR
  have tL : decide (0 ≤ L) = false := by rw [eL, decide_eq_false_iff_not]; exact hL
  have GR := hid eR
  have GL := hid eL
  have GD := hid eD
  clear eR eL eD hf hR hL
  have HB0 := hid ((Below.refl w.heap.size w).alloc (Nat.le_refl _) (.cells #[.int .i64 0, .int .i64 0, .int .i64 0, .int .i64 0] 70))
  have HZ0 := hid (show Blk4 (w.alloc (.cells #[.int .i64 0, .int .i64 0, .int .i64 0, .int .i64 0] 70)) w.heap.size 0 0 0 0 from heap_alloc_new w _)
  go_enter Try.func84, Try.ntmps84
  go_wp2_with fail
  refine (HR.out _).mono ?_
  rintro e w1 ⟨rfl, hb1⟩
  have HB1 := hid (HB0.out.trans (hb1.mono (by simp)))
  have HZ1 := hid (show Blk4 w1 w.heap.size 0 0 0 0 from (hb1.block w.heap.size (by simp)).trans HZ0.out)
  have hl1 : w.heap.size < w1.heap.size := by have := hb1.size; simp at this; omega
  clear hb1
  go_wp2_with fail
  refine (HL.out _).mono ?_
  rintro e w2 ⟨rfl, hb2⟩
  have HB2 := hid (HB1.out.trans (hb2.mono (by omega)))
  have HZ2 := hid (show Blk4 w2 w.heap.size 0 0 0 0 from (hb2.block w.heap.size (by omega)).trans HZ1.out)
  have hl2 : w.heap.size < w2.heap.size := by have := hb2.size; omega
  clear hb2
  go_wp2_with fail
  refine (HD.out _).mono ?_
  rintro e w3 ⟨rfl, hb3⟩
  have HB3 := hid (HB2.out.trans (hb3.mono (by omega)))
  have HZ3 := hid (show Blk4 w3 w.heap.size 0 0 0 0 from (hb3.block w.heap.size (by omega)).trans HZ2.out)
  have hl3 : w.heap.size < w3.heap.size := by have := hb3.size; omega
  clear hb3
  have HP := hid (HZ3.out.put (2) (L) (0) (D))
  obtain ⟨⟨p0, p1, p2, p3⟩, _⟩ := HP.out.facts
  obtain ⟨⟨z0, z1, z2, z3⟩, y0, y1, y2, y3⟩ := HZ3.out.facts
  have HF := hid (below_put HB3.out (Nat.le_refl _) (2) (L) (0) (D))
  go_wp2_with fail
  exact bodyPost_ret (v := .agg #[.int .i64 (2), .int .i64 (L), .int .i64 (0), .int .i64 (D)]) (by simp [results, Try.results84, go_sem, p0, p1, p2, p3]) rfl ⟨by rw [← GL.out]; rw [← GD.out]; first | rfl | skip, HF.out⟩

theorem l1Parse_c (w : World) (s : ByteArray) (hs : s.size ≤ 1048576) :
    Calls Try.prog 84 #[.string s] w fun e w' => e = .returned (parI s).v ∧ Below w.heap.size w w' := by
  by_cases hf : s = fenceT
  · rw [show parI s = ⟨4, 0, 0, 0⟩ by unfold parI; rw [if_pos hf]]
    exact parse_fence w s hs hf
  · by_cases hR : 0 ≤ placeS s 0 97 2
    · by_cases h3 : s.size = 3
      · rw [show parI s = ⟨1, placeS s 2 120 2, placeS s 0 97 2, 0⟩ by unfold parI; rw [if_neg hf, if_pos ⟨hR, h3⟩]]
        exact parse_load w s hs hf hR h3
      · by_cases h5 : s.size = 5
        · rw [show parI s = ⟨5, placeS s 2 120 2, placeS s 0 97 2, placeS s 4 48 3⟩ by unfold parI; rw [if_neg hf, if_neg (fun h => h3 h.2), if_pos ⟨hR, h5⟩]]
          exact parse_swap w s hs hf hR h5
        · by_cases hL : 0 ≤ placeS s 0 120 2
          · by_cases hA : 0 ≤ placeS s 2 97 2
            · rw [show parI s = ⟨3, placeS s 0 120 2, placeS s 2 97 2, 0⟩ by unfold parI; rw [if_neg hf, if_neg (fun h => h3 h.2), if_neg (fun h => h5 h.2), if_pos ⟨hL, hA⟩]]
              exact parse_copy_y w s hs hf hR h3 h5 hL hA
            · rw [show parI s = ⟨2, placeS s 0 120 2, 0, placeS s 2 48 3⟩ by unfold parI; rw [if_neg hf, if_neg (fun h => h3 h.2), if_neg (fun h => h5 h.2), if_neg (fun h => hA h.2)]]
              exact parse_sa_y w s hs hf hR h3 h5 hL hA
          · rw [show parI s = ⟨2, placeS s 0 120 2, 0, placeS s 2 48 3⟩ by unfold parI; rw [if_neg hf, if_neg (fun h => h3 h.2), if_neg (fun h => h5 h.2), if_neg (fun h => hL h.1)]]
            exact parse_sb_y w s hs hf hR h3 h5 hL
    · by_cases hL : 0 ≤ placeS s 0 120 2
      · by_cases hA : 0 ≤ placeS s 2 97 2
        · rw [show parI s = ⟨3, placeS s 0 120 2, placeS s 2 97 2, 0⟩ by unfold parI; rw [if_neg hf, if_neg (fun h => hR h.1), if_neg (fun h => hR h.1), if_pos ⟨hL, hA⟩]]
          exact parse_copy_n w s hs hf hR hL hA
        · rw [show parI s = ⟨2, placeS s 0 120 2, 0, placeS s 2 48 3⟩ by unfold parI; rw [if_neg hf, if_neg (fun h => hR h.1), if_neg (fun h => hR h.1), if_neg (fun h => hA h.2)]]
          exact parse_sa_n w s hs hf hR hL hA
      · rw [show parI s = ⟨2, placeS s 0 120 2, 0, placeS s 2 48 3⟩ by unfold parI; rw [if_neg hf, if_neg (fun h => hR h.1), if_neg (fun h => hR h.1), if_neg (fun h => hL h.1)]]
        exact parse_sb_n w s hs hf hR hL
end Go.Proofs.Ythlmfjoiicnomaa
