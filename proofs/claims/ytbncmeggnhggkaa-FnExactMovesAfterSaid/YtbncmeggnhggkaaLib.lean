/-
  PROVED HERE: plain lemmas on lists, worlds and owned rows, for the other texts of this claim. CONDITIONS: as each lemma states.
-/
import Derived.Test.YtbncmeggnhggkaaRows
import Derived.WalkKit
import Derived.ProofKit
import Derived.OpenShut
import Derived.BigQuiet
import Derived.Deep.QuietTactic
import Derived.Deep.LoopGhost
import Derived.Deep.RegionWith
import Derived.Deep.RegionHeld3
import Derived.Deep.DeepMust
import Derived.StillTailTactics
namespace Go.Proofs.Ytbncmeggnhggkaa
open Go.RowKit
set_option linter.unusedVariables false
set_option linter.unusedSimpArgs false

/-- The cells cs stand from the address a on. -/
def Rd (w : World) (a : Option Addr) (cs : List Value) : Prop :=
  cs = [] ∨ ∃ b off, a = some ⟨b, off, none⟩ ∧ b < w.heap.size ∧ ∀ j u, cs[j]? = some u → w.cell? ⟨b, off + j, none⟩ = some u

theorem Rd.below {w w' : World} {a : Option Addr} {cs : List Value} (h : Rd w a cs) (hb : Below w.heap.size w w') : Rd w' a cs := by
  refine h.imp id ?_
  rintro ⟨b, off, rfl, hlt, hc⟩
  exact ⟨b, off, rfl, Nat.lt_of_lt_of_le hlt hb.size, fun j u hj => (hb.cell hlt).trans (hc j u hj)⟩

/-- The block of a slice's address. -/
def blk : Option Addr → Option Nat | some a => some a.block | none => none

theorem Rd.grown {w w' : World} {a : Option Addr} {cs : List Value} {row : Option Nat} (h : Rd w a cs) (hg : w.grownBy w' row) (hne : ∀ b, blk a = some b → some b ≠ row) : Rd w' a cs := by
  refine h.imp id ?_
  rintro ⟨b, off, rfl, hlt, hc⟩
  exact ⟨b, off, rfl, Nat.lt_of_lt_of_le hlt hg.size, fun j u hj => hg.cell (hc j u hj) (hne b rfl)⟩

theorem Rd.drew {w : World} {a : Option Addr} {cs : List Value} (h : Rd w a cs) : Rd w.drew a cs := h

theorem Rd.drewN {w : World} {a : Option Addr} {cs : List Value} (n : Nat) (h : Rd w a cs) : Rd (w.drewN n) a cs := h

theorem Rd.alloc {w : World} {a : Option Addr} {cs : List Value} (h : Rd w a cs) (o : Obj) : Rd (w.alloc o) a cs :=
  h.below ((Below.refl _ _).alloc (Nat.le_refl _) o)

theorem Rd.at {w : World} {a : Option Addr} {cs : List Value} (h : Rd w a cs) (k : Nat) (hk : k < cs.length) :
    ∃ b off, a = some ⟨b, off, none⟩ ∧ b < w.heap.size ∧ w.cell? ⟨b, off + k, none⟩ = some cs[k] := by
  rcases h with h | ⟨b, off, rfl, hlt, hc⟩
  · subst h; simp at hk
  · exact ⟨b, off, rfl, hlt, hc k _ (List.getElem?_eq_getElem hk)⟩

/-- What a call owns can be read. -/
theorem Rd.own {w : World} {base e size n : Nat} {a : Option Addr} {cap : Nat} {cs : List Value} (h : w.ownsRow base e size (.slice a n cap) n cs) : Rd w a cs := by
  rcases h.2 with ⟨hv, hn⟩ | ⟨g, cap', cur, hv, hb, hg, hnc, hcm, hcs, ht⟩
  · have := h.1; rw [hn] at this
    exact .inl (List.eq_nil_of_length_eq_zero (by simpa using this))
  · simp only [Value.slice.injEq, true_and] at hv
    obtain ⟨rfl, rfl⟩ := hv
    refine .inr ⟨g, 0, rfl, (Array.getElem?_eq_some_iff.1 hg).1, fun j u hj => ?_⟩
    have := h.cells (g := g) rfl j u hj
    simpa [Addr.add_lit] using this

abbrev ints (xs : List Int) : List Value := xs.map (Value.int .i64)

abbrev OwI (w : World) (base : Nat) (a : Option Addr) (cap : Nat) (xs : List Int) : Prop := w.ownsRow base 3 1 (.slice a xs.length cap) xs.length (ints xs)

theorem Rd.int {w : World} {a : Option Addr} {xs : List Int} (h : Rd w a (ints xs)) (k : Nat) (hk : k < xs.length) :
    ∃ b off, a = some ⟨b, off, none⟩ ∧ b < w.heap.size ∧ w.cell? ⟨b, off + k, none⟩ = some (.int .i64 xs[k]) := by
  obtain ⟨b, off, h1, h2, h3⟩ := h.at k (by simpa using hk)
  exact ⟨b, off, h1, h2, by simpa using h3⟩

theorem own_some {w : World} {base e size n : Nat} {a : Option Addr} {cap : Nat} {cs : List Value} (h : w.ownsRow base e size (.slice a n cap) n cs) (hn : 0 < n) :
    ∃ g, a = some ⟨g, 0, none⟩ ∧ base ≤ g ∧ g < w.heap.size := by
  rcases h.2 with ⟨hv, hn'⟩ | ⟨g, cap', cur, hv, hb, hg, _⟩
  · omega
  · simp only [Value.slice.injEq, true_and] at hv
    obtain ⟨rfl, rfl⟩ := hv
    exact ⟨g, rfl, hb, (Array.getElem?_eq_some_iff.1 hg).1⟩

theorem own_shape {w : World} {base e size n : Nat} {v : Value} {cs : List Value} (h : w.ownsRow base e size v n cs) :
    ∃ a cap, v = .slice a n cap ∧ ∀ b, blk a = some b → base ≤ b ∧ b < w.heap.size := by
  rcases h.2 with ⟨rfl, rfl⟩ | ⟨g, cap', cur, rfl, hb, hg, _⟩
  · exact ⟨none, 0, rfl, fun b hb => by simp [blk] at hb⟩
  · exact ⟨_, cap', rfl, fun b hb' => by simp [blk] at hb'; subst hb'; exact ⟨hb, (Array.getElem?_eq_some_iff.1 hg).1⟩⟩

theorem own_below {w w' : World} {base e size n : Nat} {v : Value} {cs : List Value} (h : w.ownsRow base e size v n cs) (hb : Below w.heap.size w w') : w'.ownsRow base e size v n cs := by
  refine ⟨h.1, h.2.imp id ?_⟩
  rintro ⟨g, cap, cur, hv, hg, hh, r⟩
  exact ⟨g, cap, cur, hv, hg, by rw [hb.block g (Array.getElem?_eq_some_iff.1 hh).1]; exact hh, r⟩

theorem own_kept {w w' : World} {base e size n : Nat} {a : Option Addr} {cap : Nat} {cs : List Value} {row : Option Nat} (h : w.ownsRow base e size (.slice a n cap) n cs) (hg : w.grownBy w' row) (hne : ∀ b, blk a = some b → some b ≠ row) : w'.ownsRow base e size (.slice a n cap) n cs := by
  refine h.kept hg ?_
  cases a with
  | none => exact .inl rfl
  | some x => exact .inr (by simpa [Value.ownBlock, blk] using hne x.block rfl)
theorem own_blk {w : World} {base e size n : Nat} {a : Option Addr} {cap : Nat} {cs : List Value} (h : w.ownsRow base e size (.slice a n cap) n cs) : ∀ b, blk a = some b → base ≤ b ∧ b < w.heap.size := by
  obtain ⟨a', cap', hv, hb⟩ := own_shape h
  simp only [Value.slice.injEq, true_and] at hv
  obtain ⟨rfl, rfl⟩ := hv
  exact hb

/-- What the walk is told of a slice of numbers that came in. -/
def IsRow (k : IntKind) (w : World) (a : Option Addr) (len cap : Nat) (zs : List Int) : Prop :=
  (a = none ∧ len = 0 ∧ cap = 0 ∧ zs = []) ∨
  ∃ x, a = some x ∧ len ≤ cap ∧ cap ≤ maxLen ∧ zs.length = cap ∧ (∀ i, i < zs.length → w.cell? (x.add i) = some (.int k (zs.getD i 0))) ∧ ∀ n ∈ zs, (Lit.int k n).wf = true
theorem IsRow.rd {k : IntKind} {w : World} {a : Option Addr} {len cap : Nat} {zs : List Int} (h : IsRow k w a len cap zs) : ∃ xs : List Int, xs.length = len ∧ Rd w a (xs.map (Value.int k)) ∧ ∀ n ∈ xs, (Lit.int k n).wf = true := by
  rcases h with ⟨rfl, rfl, rfl, rfl⟩ | ⟨x, rfl, h1, h2, h3, h4, h5⟩
  · exact ⟨[], rfl, .inl rfl, by simp⟩
  · refine ⟨zs.take len, by rw [List.length_take]; omega, ?_, fun n hn => h5 n (List.mem_of_mem_take hn)⟩
    by_cases h0 : len = 0
    · subst h0; exact .inl (by simp)
    · have hc := h4 0 (by omega)
      obtain ⟨b, off, spot⟩ := x
      have hspot : spot = none := by simpa [Addr.add] using World.cell?_spot hc
      subst hspot
      refine .inr ⟨b, off, rfl, World.block_lt_of_cell? w ⟨b, off, none⟩ (by simpa [Addr.add] using hc), fun j u hj => ?_⟩
      simp only [List.getElem?_map, Option.map_eq_some_iff] at hj
      obtain ⟨z, hz, rfl⟩ := hj
      obtain ⟨hjl, hz'⟩ := List.getElem?_eq_some_iff.1 hz
      have hjl' : j < len := by rw [List.length_take] at hjl; omega
      have := h4 j (by omega)
      rw [Addr.add_lit] at this
      rw [this]
      have e : zs.getD j 0 = z := by
        rw [List.getElem_take] at hz'
        simp [List.getD, List.getElem?_eq_getElem (show j < zs.length by omega), hz']
      rw [e]

theorem Try.info_int : (Try.prog.info? 3).map (fun i => (i.zero, i.size, i.bytes)) = some (some (.int .i64 0), 1, 8) := by kernel_rfl

theorem set_step (xs : List Int) (k n : Nat) (hn : xs.length = n) (hk : k < n) :
    ((ints (xs.take k ++ List.replicate (n - k) 0)).set k (.int .i64 xs[k])) = ints (xs.take (k+1) ++ List.replicate (n - (k+1)) 0) := by
  have e : List.replicate (n - k) (0 : Int) = 0 :: List.replicate (n - (k + 1)) 0 := by
    rw [show n - k = (n - (k + 1)) + 1 by omega]; rfl
  rw [e, List.take_succ_eq_append_getElem (by omega)]
  simp only [ints, List.map_append, List.map_cons, List.map_nil, List.append_assoc, List.cons_append, List.nil_append]
  rw [List.set_append_right _ _ (by simp; omega)]
  simp [show k - min k xs.length = 0 by omega]

theorem at_step (xs : List Int) (k n : Nat) (hn : xs.length = n) (hk : k < n) : (ints (xs.take k ++ List.replicate (n - k) 0))[k]? = some (.int .i64 0) := by
  rw [show n - k = (n - (k + 1)) + 1 by omega]
  simp [List.getElem?_append, hn, show ¬ k < min k n by omega, show k - min k n = 0 by omega]

theorem run_callFunc {f : FuncId} {fn : Func} (hf : Try.prog.funcs[f]? = some fn) (hname : (fn.name == "runtime.NumGoroutine") = false) (hb : fn.body.isNone = false) (args : Array Value) (w : World) :
    (callFunc f args).run Try.prog w = .ok (.enter f args) w := by
  have hp : (do let p ← program; pure p : Sem Program).run Try.prog w = .ok Try.prog w := rfl
  unfold callFunc
  simp only [Sem.run_bind]
  show (Result.ok Try.prog w).andThen _ = _
  rw [Result.andThen_ok, hf]
  simp only [hname, hb, Bool.false_eq_true, if_false]
  rfl
theorem hid {p : Prop} (h : p) : Hid p := h
theorem ret_int {k : IntKind} {a b : Int} (h : a = b) : Ending.returned (.int k a) = .returned (.int k b) := by rw [h]
theorem ret_slice {a : Option Addr} {n m cap : Nat} (h : n = m) : Ending.returned (.slice a n cap) = .returned (.slice a m cap) := by rw [h]
theorem ret_bool {a b : Bool} (h : a = b) : Ending.returned (.bool a) = .returned (.bool b) := by rw [h]
theorem ret_str {a b : ByteArray} (h : a = b) : Ending.returned (.string a) = .returned (.string b) := by rw [h]
theorem below_drewN {B : Nat} {a w : World} (n : Nat) (h : Below B a w) : Below B a (w.drewN n) := ⟨h.os, h.tape, h.output, h.size, h.block⟩
end Go.Proofs.Ytbncmeggnhggkaa
