/-
  PROVED HERE: what math/bits.OnesCount does at numbers of 16 bits, and impl.CountRel. CONDITIONS: as each theorem states.
-/
import Derived.Test.YtmeoclkngjboiaaDoorRelE
namespace Go.Proofs.YtmeoclkngjboiaaDoor
open Go.RowKit
set_option linter.unusedVariables false
set_option linter.unusedSimpArgs false

theorem and_split (q r m s : Nat) (hr : r < 256) (hs : s < 256) : (256 * q + r) &&& (256 * m + s) = 256 * (q &&& m) + (r &&& s) := by
  have hrs : (r &&& s) < 256 := Nat.lt_of_le_of_lt Nat.and_le_left hr
  apply Nat.eq_of_testBit_eq
  intro k
  have e : (256 : Nat) = 2 ^ 8 := rfl
  rw [Nat.testBit_and, e, Nat.testBit_two_pow_mul_add q (by omega), Nat.testBit_two_pow_mul_add m (by omega), Nat.testBit_two_pow_mul_add (q &&& m) (by omega)]
  split <;> simp
def popB (x : Nat) : Nat := x % 2 + x / 2 % 2 + x / 4 % 2 + x / 8 % 2 + x / 16 % 2 + x / 32 % 2 + x / 64 % 2 + x / 128 % 2
def s1 (y : Nat) : Nat := (y / 2 &&& 85) + (y &&& 85)
def s2 (y : Nat) : Nat := (y / 4 &&& 51) + (y &&& 51)
theorem pd1 : ∀ h < 256, (h / 2 &&& 24019198012642645) = (h / 2 &&& 85) ∧ (h &&& 24019198012642645) = (h &&& 85) := by decide +kernel
theorem d2 : ∀ b < 2, ∀ l < 256, (128 * b + l / 2) &&& 85 = (l / 2 &&& 85) := by decide +kernel
theorem d3 : ∀ a < 256, (a / 4 &&& 14411518807585587) = (a / 4 &&& 51) ∧ (a &&& 14411518807585587) = (a &&& 51) := by decide +kernel
theorem d4 : ∀ b < 4, ∀ l < 256, (64 * b + l / 4) &&& 51 = (l / 4 &&& 51) := by decide +kernel
theorem d5 : ∀ y < 256, s1 y < 256 ∧ s2 (s1 y) < 256 ∧ s2 (s1 y) % 16 ≤ 4 ∧ s2 (s1 y) / 16 ≤ 4 ∧ s2 (s1 y) % 16 + s2 (s1 y) / 16 = popB y := by decide +kernel
theorem d6 : ∀ y < 256, (y &&& 4238682002231055) = y % 16 := by decide +kernel
theorem d7 : ∀ y < 256, y &&& 15 = y % 16 := by decide +kernel
theorem d8 : ∀ y < 128, y &&& 127 = y := by decide +kernel
example : 6148914691236517205 = 256 * 24019198012642645 + 85 ∧ 3689348814741910323 = 256 * 14411518807585587 + 51 ∧ 1085102592571150095 = 256 * 4238682002231055 + 15 := by decide
/-- The steps of the count, of a number of 16 bits. -/
def onesF (x : Nat) : Nat :=
  let x1 := (x / 2 &&& 6148914691236517205) + (x &&& 6148914691236517205)
  let x2 := (x1 / 4 &&& 3689348814741910323) + (x1 &&& 3689348814741910323)
  let x3 := (x2 / 16 + x2) &&& 1085102592571150095
  let x4 := x3 + x3 / 256
  let x5 := x4 + x4 / 65536
  let x6 := x5 + x5 / 4294967296
  x6 &&& 127
theorem onesF_eq (h l : Nat) (hh : h < 256) (hl : l < 256) : onesF (256 * h + l) = popB h + popB l := by
  have e0 : (6148914691236517205 : Nat) = 256 * 24019198012642645 + 85 := rfl
  have e1 : (3689348814741910323 : Nat) = 256 * 14411518807585587 + 51 := rfl
  have e2 : (1085102592571150095 : Nat) = 256 * 4238682002231055 + 15 := rfl
  obtain ⟨p1, p2, p3, p4, p5⟩ := d5 h hh
  obtain ⟨q1, q2, q3, q4, q5⟩ := d5 l hl
  have st1 : ((256 * h + l) / 2 &&& 6148914691236517205) + ((256 * h + l) &&& 6148914691236517205) = 256 * s1 h + s1 l := by
    rw [e0, show (256 * h + l) / 2 = 256 * (h / 2) + (128 * (h % 2) + l / 2) by omega, and_split _ _ _ _ (by omega) (by omega), and_split _ _ _ _ hl (by omega), d2 _ (by omega) _ hl, (pd1 h hh).1, (pd1 h hh).2]
    unfold s1
    omega
  have st2 : ((256 * s1 h + s1 l) / 4 &&& 3689348814741910323) + ((256 * s1 h + s1 l) &&& 3689348814741910323) = 256 * s2 (s1 h) + s2 (s1 l) := by
    rw [e1, show (256 * s1 h + s1 l) / 4 = 256 * (s1 h / 4) + (64 * (s1 h % 4) + s1 l / 4) by omega, and_split _ _ _ _ (by omega) (by omega), and_split _ _ _ _ q1 (by omega), d4 _ (by omega) _ q1, (d3 _ p1).1, (d3 _ p1).2]
    show _ = 256 * ((s1 h / 4 &&& 51) + (s1 h &&& 51)) + ((s1 l / 4 &&& 51) + (s1 l &&& 51))
    omega
  obtain ⟨c, hc⟩ : ∃ c, c = s2 (s1 h) := ⟨_, rfl⟩
  obtain ⟨d, hd⟩ : ∃ d, d = s2 (s1 l) := ⟨_, rfl⟩
  rw [← hc] at p2 p3 p4 p5 st2
  rw [← hd] at q2 q3 q4 q5 st2
  have st3 : ((256 * c + d) / 16 + (256 * c + d)) &&& 1085102592571150095 = 256 * (c % 16 + c / 16) + (d % 16 + d / 16) := by
    rw [e2, show (256 * c + d) / 16 + (256 * c + d) = 256 * (c + c / 16) + (d + d / 16 + 16 * (c % 16)) by omega, and_split _ _ _ _ (by omega) (by omega), d6 _ (by omega), d7 _ (by omega), show (c + c / 16) % 16 = c % 16 + c / 16 by omega, show (d + d / 16 + 16 * (c % 16)) % 16 = d % 16 + d / 16 by omega]
  rw [← p5, ← q5]
  unfold onesF
  simp only [st1, st2, st3]
  obtain ⟨e, he⟩ : ∃ e, e = c % 16 + c / 16 := ⟨_, rfl⟩
  obtain ⟨f, hf⟩ : ∃ f, f = d % 16 + d / 16 := ⟨_, rfl⟩
  rw [← he, ← hf]
  have be : e ≤ 8 := by omega
  have bf : f ≤ 8 := by omega
  have g1 : (256 * e + f) / 256 = e := by omega
  rw [g1]
  have g2 : (256 * e + f + e) / 65536 = 0 := by omega
  rw [g2, Nat.add_zero]
  have g3 : (256 * e + f + e) / 4294967296 = 0 := by omega
  rw [g3, Nat.add_zero, show (127 : Nat) = 256 * 0 + 127 from rfl, show 256 * e + f + e = 256 * e + (f + e) by omega, and_split _ _ _ _ (by omega) (by omega), d8 _ (by omega)]
  simp
  omega

theorem pop_add (a b x : Nat) : popUpto (a + b) x = popUpto a x + popUpto b (x / 2 ^ a) := by
  induction b with
  | zero => simp [pop_zero]
  | succ b ih =>
    rw [← Nat.add_assoc, pop_succ, pop_succ, ih, Nat.testBit_div_two_pow, Nat.add_comm b a]
    omega
theorem pop8 (x : Nat) : popUpto 8 x = popB (x % 256) := by
  have f : ∀ k, (if x.testBit k = true then 1 else 0) = x / 2 ^ k % 2 := fun k => by
    rw [Nat.testBit_eq_decide_div_mod_eq]
    by_cases h : x / 2 ^ k % 2 = 1
    · simp [h]
    · simp [h]; omega
  simp only [pop_succ, pop_zero, f]
  unfold popB
  simp only [Nat.reducePow, Nat.div_one]
  have e0 : x % 256 % 2 = x % 2 := by omega
  have e1 : x % 256 / 2 % 2 = x / 2 % 2 := by omega
  have e2 : x % 256 / 4 % 2 = x / 4 % 2 := by omega
  have e3 : x % 256 / 8 % 2 = x / 8 % 2 := by omega
  have e4 : x % 256 / 16 % 2 = x / 16 % 2 := by omega
  have e5 : x % 256 / 32 % 2 = x / 32 % 2 := by omega
  have e6 : x % 256 / 64 % 2 = x / 64 % 2 := by omega
  have e7 : x % 256 / 128 % 2 = x / 128 % 2 := by omega
  rw [e0, e1, e2, e3, e4, e5, e6, e7, Nat.zero_add]
theorem pop16 {x : Nat} (h : x < 65536) : popUpto 16 x = popB (x / 256) + popB (x % 256) := by
  have := pop_add 8 8 x
  rw [this, pop8, pop8, show (2 : Nat) ^ 8 = 256 from rfl, Nat.mod_eq_of_lt (show x / 256 < 256 by omega)]
  omega
theorem onesF_pop {x : Nat} (h : x < 65536) : onesF x = popUpto 16 x := by
  have := onesF_eq (x / 256) (x % 256) (by omega) (by omega)
  rw [show 256 * (x / 256) + x % 256 = x by omega] at this
  rw [this, pop16 h]

theorem and64 (a m : Nat) (ha : a < 18446744073709551616) (hm : m < 18446744073709551616) : bits .and .u64 a m = ((a &&& m : Nat) : Int) := bits_and_u64_nat a m ha hm
theorem add64 (a b : Nat) (h : a + b < 18446744073709551616) : IntKind.u64.wrap ((a : Int) + b) = ((a + b : Nat) : Int) := by
  rw [IntWalk.u64_in _ (by omega)]; simp

theorem ones64_c (w : World) (x : Nat) (hx : x < 65536) :
    Calls Tryd.prog 83 #[.int .u64 x] w fun e w' => e = .returned (.int .i64 (popUpto 16 x : Nat)) ∧ w = w' := by
  have HF := hid (onesF_pop hx)
  go_enter Tryd.func83, Tryd.ntmps83
  go_wp2
  go_ret
  refine ⟨ret_int ?_, rfl⟩
  rw [← HF.out]
  have c0 : (6148914691236517205 : Int) = ((6148914691236517205 : Nat) : Int) := rfl
  have c1 : (3689348814741910323 : Int) = ((3689348814741910323 : Nat) : Int) := rfl
  have c2 : (1085102592571150095 : Int) = ((1085102592571150095 : Nat) : Int) := rfl
  have dv : ∀ (a b : Nat), (a : Int) / (b : Int) = ((a / b : Nat) : Int) := fun a b => by simp
  have dv2 : ∀ a : Nat, (a : Int) / 2 = ((a / 2 : Nat) : Int) := fun a => dv a 2
  have dv4 : ∀ a : Nat, (a : Int) / 4 = ((a / 4 : Nat) : Int) := fun a => dv a 4
  have dv16 : ∀ a : Nat, (a : Int) / 16 = ((a / 16 : Nat) : Int) := fun a => dv a 16
  have dv256 : ∀ a : Nat, (a : Int) / 256 = ((a / 256 : Nat) : Int) := fun a => dv a 256
  have dv65536 : ∀ a : Nat, (a : Int) / 65536 = ((a / 65536 : Nat) : Int) := fun a => dv a 65536
  have dvL : ∀ a : Nat, (a : Int) / 4294967296 = ((a / 4294967296 : Nat) : Int) := fun a => dv a 4294967296
  rw [c0, c1, c2, dv2, and64 _ _ (by omega) (by decide), and64 _ _ (by omega) (by decide)]
  have b1 : (x / 2 &&& 6148914691236517205) ≤ x / 2 := Nat.and_le_left
  have b2 : (x &&& 6148914691236517205) ≤ x := Nat.and_le_left
  rw [add64 _ _ (by omega)]
  obtain ⟨x1, h1⟩ : ∃ x1, x1 = (x / 2 &&& 6148914691236517205) + (x &&& 6148914691236517205) := ⟨_, rfl⟩
  rw [← h1, dv4, and64 _ _ (by omega) (by decide), and64 _ _ (by omega) (by decide)]
  have b3 : (x1 / 4 &&& 3689348814741910323) ≤ x1 / 4 := Nat.and_le_left
  have b4 : (x1 &&& 3689348814741910323) ≤ x1 := Nat.and_le_left
  rw [add64 _ _ (by omega)]
  obtain ⟨x2, h2⟩ : ∃ x2, x2 = (x1 / 4 &&& 3689348814741910323) + (x1 &&& 3689348814741910323) := ⟨_, rfl⟩
  rw [← h2, dv16, add64 _ _ (by omega), and64 _ _ (by omega) (by decide)]
  have b5 : (x2 / 16 + x2 &&& 1085102592571150095) ≤ x2 / 16 + x2 := Nat.and_le_left
  obtain ⟨x3, h3⟩ : ∃ x3, x3 = (x2 / 16 + x2 &&& 1085102592571150095) := ⟨_, rfl⟩
  rw [← h3, dv256, add64 _ _ (by omega)]
  obtain ⟨x4, h4⟩ : ∃ x4, x4 = x3 + x3 / 256 := ⟨_, rfl⟩
  rw [← h4, dv65536, add64 _ _ (by omega)]
  obtain ⟨x5, h5⟩ : ∃ x5, x5 = x4 + x4 / 65536 := ⟨_, rfl⟩
  rw [← h5, dvL, add64 _ _ (by omega)]
  obtain ⟨x6, h6⟩ : ∃ x6, x6 = x5 + x5 / 4294967296 := ⟨_, rfl⟩
  rw [← h6, IntWalk.wrap64_in _ (by omega), show (127 : Int) = ((127 : Nat) : Int) from rfl]
  rw [show onesF x = x6 &&& 127 from by unfold onesF; rw [h6, h5, h4, h3, h2, h1]]
  exact (bits_nat .i64 62 (by decide) (fun n h0 h1 => IntWalk.i64_in n (by omega)) x6 127 (by omega) (by decide)).1

theorem ones_c (w : World) (x : Nat) (hx : x < 65536) :
    Calls Tryd.prog 55 #[.int .u64 x] w fun e w' => e = .returned (.int .i64 (popUpto 16 x : Nat)) ∧ w = w' := by
  have C := hid (ones64_c w x hx)
  go_enter Tryd.func55, Tryd.ntmps55
  go_wp2_with fail
  refine C.out.mono ?_
  rintro e w1 ⟨rfl, rfl⟩
  go_wp2
  go_ret
  exact ⟨rfl, rfl⟩

theorem pop_more {n x : Nat} (h : x < 2 ^ n) (m : Nat) (hm : n ≤ m) : popUpto m x = popUpto n x := by
  induction m with
  | zero =>
    obtain rfl : n = 0 := by omega
    rfl
  | succ m ih =>
    by_cases hnm : n = m + 1
    · subst hnm; rfl
    · rw [pop_succ, ih (by omega), Nat.testBit_lt_two_pow (Nat.lt_of_lt_of_le h (Nat.pow_le_pow_right (by omega) (by omega)))]
      simp

theorem implCountYes_c (w : World) (a : Option Addr) (cap : Nat) (ns : List Nat) (h : Rd w a (natV ns)) (ho : Ok ns) :
    Calls Tryd.prog 24 #[.slice a ns.length cap] w fun e w' => e = .returned (.int .i64 (countN ns : Nat)) ∧ Below w.heap.size w w' := by
  have C1 := hid (relValidI_c w a cap (castI ns) (by rw [ints_castI]; exact h) (by rw [length_castI]; have := ho.len; omega))
  rw [valid_castI ho, length_castI] at C1
  have HE := hid (show countN ns = cntUpto ns.length ns from rfl)
  have hlen := ho.len
  have HCL := hid (fun i => cnt_le i ns ho.len)
  obtain ⟨n, hn⟩ : ∃ n, n = ns.length := ⟨_, rfl⟩
  rw [← hn] at C1 HE hlen ⊢
  have HN := hid hn
  have HR := hid h
  have HO := hid ho
  clear hn h ho
  go_enter Tryd.func24, Tryd.ntmps24
  go_wp2_with fail
  refine C1.out.mono ?_
  rintro e w1 ⟨rfl, hb1⟩
  go_wp2
  go_loop [3, 11] (fun c i => ∃ k : Nat, k ≤ n ∧ i = .int .i64 k ∧ cntUpto k ns ≤ 16 * k ∧ c = .int .i64 (cntUpto k ns : Nat)) (fun _ i => n - (intOf i).toNat)
  case atStart => exact ⟨0, Nat.zero_le _, rfl, by simp [cntUpto], by simp [cntUpto]⟩
  case round =>
    obtain ⟨k, hk, rfl, hc, rfl⟩ := hrel
    by_cases hlt : k < n
    · obtain ⟨b, off, x, rfl, hb, hx, hcell⟩ := HR.out.nat k (by rw [← HN.out]; exact hlt)
      have hcx := (hb1.cell (p := ⟨b, off + k, none⟩) hb).trans hcell
      have HS := hid (cnt_succ hx)
      rw [← HN.out] at HS
      have hx6 := HO.out.at? hx
      have hxn := HO.out.row x (List.mem_of_getElem? hx)
      have Cx := hid (fun w => ones_c w x hx6)
      rw [← HN.out] at hxn
      rw [pop_more hxn 16 hlen] at Cx
      have hp := pop_le n x
      have HNX := hid (HCL.out (k + 1))
      obtain ⟨p, hpp⟩ : ∃ p, p = popUpto n x := ⟨_, rfl⟩
      rw [← hpp] at HS Cx hp
      obtain ⟨c, hcc⟩ : ∃ c, c = cntUpto k ns := ⟨_, rfl⟩
      rw [← hcc] at hc HS ⊢
      clear hcell hx hxn hpp hcc
      go_wp2_with fail
      refine (Cx.out _).mono ?_
      rintro e w2 ⟨rfl, rfl⟩
      go_wp2
      go_round
      case rel => exact ⟨k + 1, by omega, by go_num, HNX.out, by rw [HS.out]; go_num⟩
      case measure => simp [intOf]; omega
    · have HK := hid (show k = n by omega)
      go_wp2
      go_ret
      exact ⟨ret_int (by rw [HE.out, HK.out]), hb1⟩

theorem implCount_c (w : World) (a : Option Addr) (cap : Nat) (xs : List Int) (h : Rd w a (ints xs)) (hl : xs.length ≤ 1048576) :
    Calls Tryd.prog 24 #[.slice a xs.length cap] w fun e w' => e = .returned (.int .i64 (countF xs : Nat)) ∧ Below w.heap.size w w' := by
  by_cases hv : relValid xs = true
  · obtain ⟨us, rfl, ho⟩ := ok_of_valid hv
    rw [countF_yes ho]
    rw [ints_castI] at h
    rw [length_castI]
    exact implCountYes_c w a cap us h ho
  · have hv : relValid xs = false := by simpa using hv
    have C1 := hid (relValidI_c w a cap xs h hl)
    rw [hv] at C1
    rw [countF_no hv]
    clear hv h
    go_enter Tryd.func24, Tryd.ntmps24
    go_wp2_with fail
    refine C1.out.mono ?_
    rintro e w1 ⟨rfl, hb1⟩
    go_wp2
    go_ret
    exact ⟨rfl, hb1⟩
end Go.Proofs.YtmeoclkngjboiaaDoor
