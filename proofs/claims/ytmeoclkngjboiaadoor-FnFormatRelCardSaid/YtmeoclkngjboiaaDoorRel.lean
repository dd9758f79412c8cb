/-
  PROVED HERE: plain facts on relations as lists of numbers. CONDITIONS: as each lemma states.
-/
import Derived.Test.YtmeoclkngjboiaaDoorLib
namespace Go.Proofs.YtmeoclkngjboiaaDoor
open Go.RowKit
set_option linter.unusedVariables false
set_option linter.unusedSimpArgs false

def natV (ns : List Nat) : List Value := ns.map fun n : Nat => Value.int .i64 (n : Int)
def castI (ns : List Nat) : List Int := ns.map fun n : Nat => (n : Int)
theorem ints_castI (ns : List Nat) : ints (castI ns) = natV ns := by simp [ints, castI, natV]
theorem length_natV (ns : List Nat) : (natV ns).length = ns.length := by simp [natV]
theorem length_castI (ns : List Nat) : (castI ns).length = ns.length := by simp [castI]

theorem Rd.nat {w : World} {a : Option Addr} {ns : List Nat} (h : Rd w a (natV ns)) (k : Nat) (hk : k < ns.length) :
    ∃ b off x, a = some ⟨b, off, none⟩ ∧ b < w.heap.size ∧ ns[k]? = some x ∧ w.cell? ⟨b, off + k, none⟩ = some (.int .i64 (x : Nat)) := by
  obtain ⟨b, off, h1, h2, h3⟩ := h.at k (by simpa [natV] using hk)
  exact ⟨b, off, ns[k], h1, h2, List.getElem?_eq_getElem hk, by simpa [natV] using h3⟩

theorem bits_and_i64 (x y : Nat) (hx : x < 65536) (hy : y < 65536) : bits .and .i64 x y = ((x &&& y : Nat) : Int) :=
  (bits_nat .i64 16 (by decide) (fun n h0 h1 => IntWalk.i64_in n (by omega)) x y hx hy).1
theorem bits_or_i64 (x y : Nat) (hx : x < 65536) (hy : y < 65536) : bits .or .i64 x y = ((x ||| y : Nat) : Int) :=
  (bits_nat .i64 16 (by decide) (fun n h0 h1 => IntWalk.i64_in n (by omega)) x y hx hy).2
def nMinus (x y : Nat) : Nat := x ^^^ (x &&& y)
theorem testBit_nMinus (x y k : Nat) : (nMinus x y).testBit k = (x.testBit k && !y.testBit k) := by
  simp [nMinus]; cases x.testBit k <;> cases y.testBit k <;> rfl
theorem nMinus_le (x y n : Nat) (hx : x < 2 ^ n) : nMinus x y < 2 ^ n := Nat.xor_lt_two_pow hx (Nat.lt_of_le_of_lt Nat.and_le_left hx)
theorem bits_andNot_i64 (x y : Nat) (hx : x < 65536) (hy : y < 65536) : bits .andNot .i64 x y = ((nMinus x y : Nat) : Int) := by
  have e : (BitVec.ofInt 64 (x : Int) &&& ~~~ BitVec.ofInt 64 (y : Int)).toNat = nMinus x y := by
    apply Nat.eq_of_testBit_eq
    intro k
    rw [testBit_nMinus]
    simp only [BitVec.ofInt_natCast, BitVec.testBit_toNat, BitVec.getLsbD_and, BitVec.getLsbD_not, BitVec.getLsbD_ofNat]
    by_cases hk : k < 64
    · simp [hk]
    · have : x.testBit k = false := Nat.testBit_lt_two_pow (Nat.lt_of_lt_of_le hx (by have := Nat.pow_le_pow_right (n := 2) (by omega) (show 16 ≤ k by omega); simpa using this))
      simp [this]
  show IntKind.i64.wrap (((BitVec.ofInt 64 (x : Int) &&& ~~~ BitVec.ofInt 64 (y : Int)).toNat : Nat) : Int) = _
  rw [e]
  have := nMinus_le x y 16 hx
  exact IntWalk.i64_in _ (by omega)
theorem bit_i64 (x k : Nat) (hx : x < 65536) : (bits .and .i64 ((x : Int) / 2 ^ k) 1 == 1) = x.testBit k := by
  have e : (x : Int) / 2 ^ k = ((x >>> k : Nat) : Int) := by rw [Nat.shiftRight_eq_div_pow]; simp
  rw [e]
  have hlt : x >>> k < 65536 := Nat.lt_of_le_of_lt (by rw [Nat.shiftRight_eq_div_pow]; exact Nat.div_le_self _ _) hx
  have := bits_and_i64 (x >>> k) 1 hlt (by decide)
  rw [show ((1 : Nat) : Int) = 1 from rfl] at this
  rw [this, Nat.testBit, Nat.and_comm]
  have h2 : 1 &&& (x >>> k) = 0 ∨ 1 &&& (x >>> k) = 1 := by
    have : 1 &&& (x >>> k) ≤ 1 := Nat.and_le_left
    omega
  rcases h2 with h | h <;> rw [h] <;> rfl
theorem two_pow_le (n : Nat) (hn : n ≤ 16) : (1 : Int) ≤ 2 ^ n ∧ (2 : Int) ^ n ≤ 65536 := by
  have h1 : 1 ≤ 2 ^ n := Nat.one_le_two_pow
  have h2 : 2 ^ n ≤ 65536 := Nat.le_trans (Nat.pow_le_pow_right (n := 2) (by omega) hn) (by decide)
  have e : (2 : Int) ^ n = ((2 ^ n : Nat) : Int) := by simp
  rw [e]
  omega
theorem full_i64 (n : Nat) (hn : n ≤ 16) : wrap64 (wrap64 (2 ^ n) - 1) = (2 : Int) ^ n - 1 := by
  have := two_pow_le n hn
  rw [IntWalk.wrap64_in (2 ^ n) (by omega), IntWalk.wrap64_in _ (by omega)]

/-- The list is a relation. -/
def relValid (xs : List Int) : Bool := decide (xs.length ≤ 16) && xs.all fun x => decide (0 ≤ x) && decide (x < 2 ^ xs.length)
/-- The list of natural numbers is a relation. -/
structure Ok (ns : List Nat) : Prop where
  len : ns.length ≤ 16
  row : ∀ n ∈ ns, n < 2 ^ ns.length
theorem Ok.lt {ns : List Nat} (h : Ok ns) {n : Nat} (hn : n ∈ ns) : n < 65536 :=
  Nat.lt_of_lt_of_le (h.row n hn) (Nat.pow_le_pow_right (n := 2) (by omega) h.len)
theorem Ok.at {ns : List Nat} (h : Ok ns) {k : Nat} (hk : k < ns.length) : ns[k] < 65536 := h.lt (List.getElem_mem hk)
theorem ok_of_valid {xs : List Int} (h : relValid xs = true) : ∃ ns, xs = castI ns ∧ Ok ns := by
  simp only [relValid, Bool.and_eq_true, decide_eq_true_eq, List.all_eq_true] at h
  have e : xs = castI (xs.map Int.toNat) := by
    simp only [castI, List.map_map]
    conv => lhs; rw [← List.map_id xs]
    apply List.map_congr_left
    intro x hx
    have := (h.2 x hx).1
    simp; omega
  refine ⟨xs.map Int.toNat, e, by simpa using h.1, ?_⟩
  intro n hn
  simp only [List.mem_map] at hn
  obtain ⟨x, hx, rfl⟩ := hn
  have h2 := h.2 x hx
  rw [List.length_map]
  have : ((x.toNat : Nat) : Int) < ((2 ^ xs.length : Nat) : Int) := by
    rw [Int.toNat_of_nonneg h2.1]; have := h2.2; simpa using this
  exact_mod_cast this
theorem valid_castI {ns : List Nat} (h : Ok ns) : relValid (castI ns) = true := by
  simp only [relValid, Bool.and_eq_true, decide_eq_true_eq, List.all_eq_true, length_castI]
  refine ⟨h.len, fun x hx => ?_⟩
  simp only [castI, List.mem_map] at hx
  obtain ⟨n, hn, rfl⟩ := hx
  refine ⟨by omega, ?_⟩
  have := h.row n hn
  exact_mod_cast this
theorem toNat_castI (ns : List Nat) : (castI ns).map Int.toNat = ns := by
  rw [castI, List.map_map, show (Int.toNat ∘ fun n : Nat => (n : Int)) = id from by funext n; simp, List.map_id]

/-- Two relations on the same elements. -/
def fitB (xs ys : List Int) : Bool := relValid xs && relValid ys && decide (xs.length = ys.length)
/-- A function of two relations, at all lists of numbers. -/
def lift2 (f : List Nat → List Nat → List Nat) (xs ys : List Int) : List Int := if fitB xs ys then castI (f (xs.map Int.toNat) (ys.map Int.toNat)) else []
def lift1 (f : List Nat → List Nat) (xs : List Int) : List Int := if relValid xs then castI (f (xs.map Int.toNat)) else []
theorem lift2_no {f : List Nat → List Nat → List Nat} {xs ys : List Int} (h : fitB xs ys = false) : lift2 f xs ys = [] := by simp [lift2, h]
theorem lift1_no {f : List Nat → List Nat} {xs : List Int} (h : relValid xs = false) : lift1 f xs = [] := by simp [lift1, h]
theorem fit_castI {us vs : List Nat} (ha : Ok us) (hb : Ok vs) (h : us.length = vs.length) : fitB (castI us) (castI vs) = true := by
  simp [fitB, valid_castI ha, valid_castI hb, length_castI, h]
theorem lift2_yes {f : List Nat → List Nat → List Nat} {us vs : List Nat} (ha : Ok us) (hb : Ok vs) (h : us.length = vs.length) : lift2 f (castI us) (castI vs) = castI (f us vs) := by
  simp [lift2, fit_castI ha hb h, toNat_castI]
theorem lift1_yes {f : List Nat → List Nat} {us : List Nat} (ha : Ok us) : lift1 f (castI us) = castI (f us) := by
  simp [lift1, valid_castI ha, toNat_castI]
theorem ok_of_fit {xs ys : List Int} (h : fitB xs ys = true) : ∃ us vs, xs = castI us ∧ ys = castI vs ∧ Ok us ∧ Ok vs ∧ us.length = vs.length := by
  simp only [fitB, Bool.and_eq_true, decide_eq_true_eq] at h
  obtain ⟨us, rfl, ha⟩ := ok_of_valid h.1.1
  obtain ⟨vs, rfl, hb⟩ := ok_of_valid h.1.2
  exact ⟨us, vs, rfl, rfl, ha, hb, by simpa [length_castI] using h.2⟩

def meetN (us vs : List Nat) : List Nat := List.zipWith (· &&& ·) us vs
def unionN (us vs : List Nat) : List Nat := List.zipWith (· ||| ·) us vs
def minusN (us vs : List Nat) : List Nat := List.zipWith nMinus us vs

/-- What an append of one number makes of the numbers that have been gathered. -/
theorem take_natV {ns : List Nat} {k x : Nat} (hk : ns[k]? = some x) : natV (ns.take k) ++ [Value.int .i64 (x : Nat)] = natV (ns.take (k + 1)) := by
  obtain ⟨h, rfl⟩ := List.getElem?_eq_some_iff.1 hk
  rw [List.take_succ_eq_append_getElem h, natV, natV, List.map_append]; rfl
theorem Ok.at? {ns : List Nat} (h : Ok ns) {k x : Nat} (hk : ns[k]? = some x) : x < 65536 := h.lt (List.mem_of_getElem? hk)
theorem zip_at {f : Nat → Nat → Nat} {us vs : List Nat} {k x y : Nat} (h : us[k]? = some x) (h' : vs[k]? = some y) : (List.zipWith f us vs)[k]? = some (f x y) := by
  simp [List.getElem?_zipWith, h, h']
end Go.Proofs.YtmeoclkngjboiaaDoor
