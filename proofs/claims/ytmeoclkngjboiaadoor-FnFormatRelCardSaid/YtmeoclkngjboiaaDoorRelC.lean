/-
  PROVED HERE: what UnionRel, MeetRel and MinusRel of both packages do. CONDITIONS: as each theorem states.
-/
import Derived.Test.YtmeoclkngjboiaaDoorRelB
namespace Go.Proofs.YtmeoclkngjboiaaDoor
open Go.RowKit
set_option linter.unusedVariables false
set_option linter.unusedSimpArgs false

/-- The call hands back a slice of its own with these numbers, and leaves what was there. -/
def RetN (w : World) (ns : List Nat) (e : Ending) (w' : World) : Prop :=
  ∃ a cap, e = .returned (.slice a ns.length cap) ∧ w'.ownsRow w.heap.size 3 1 (.slice a ns.length cap) ns.length (natV ns) ∧ Below w.heap.size w w'
def RetI (w : World) (xs : List Int) (e : Ending) (w' : World) : Prop :=
  ∃ a cap, e = .returned (.slice a xs.length cap) ∧ OwI w' w.heap.size a cap xs ∧ Below w.heap.size w w'
theorem RetN.castI {w w' : World} {ns : List Nat} {e : Ending} (h : RetN w ns e w') : RetI w (castI ns) e w' := by
  obtain ⟨a, cap, rfl, h1, h2⟩ := h
  refine ⟨a, cap, by rw [length_castI], ?_, h2⟩
  unfold OwI
  rw [length_castI, ints_castI]
  exact h1
theorem RetN.after {w w1 w' : World} {ns : List Nat} {e : Ending} (h : RetN w1 ns e w') (hb : Below w.heap.size w w1) : RetN w ns e w' := by
  obtain ⟨a, cap, rfl, h1, h2⟩ := h
  refine ⟨a, cap, rfl, ⟨h1.1, h1.2.imp id ?_⟩, hb.trans (h2.mono hb.size)⟩
  rintro ⟨g, c, cur, hv, hg, r⟩
  exact ⟨g, c, cur, hv, Nat.le_trans hb.size hg, r⟩
theorem RetI.after {w w1 w' : World} {xs : List Int} {e : Ending} (h : RetI w1 xs e w') (hb : Below w.heap.size w w1) : RetI w xs e w' := by
  obtain ⟨a, cap, rfl, h1, h2⟩ := h
  refine ⟨a, cap, rfl, ⟨h1.1, h1.2.imp id ?_⟩, hb.trans (h2.mono hb.size)⟩
  rintro ⟨g, c, cur, hv, hg, r⟩
  exact ⟨g, c, cur, hv, Nat.le_trans hb.size hg, r⟩
theorem own_after {w w1 w' : World} {e size n : Nat} {v : Value} {cs : List Value} (h1 : w'.ownsRow w1.heap.size e size v n cs) (hb : Below w.heap.size w w1) : w'.ownsRow w.heap.size e size v n cs := by
  refine ⟨h1.1, h1.2.imp id ?_⟩
  rintro ⟨g, c, cur, hv, hg, r⟩
  exact ⟨g, c, cur, hv, Nat.le_trans hb.size hg, r⟩
theorem own_none (w : World) (base e size : Nat) : w.ownsRow base e size (.slice none 0 0) 0 [] := World.ownsRow_nil w base e size
theorem own_lit0 (w : World) (base e : Nat) (h : base ≤ w.heap.size) : (w.alloc (.cells #[] e)).ownsRow base e 1 (.slice (some ⟨w.heap.size, 0, none⟩) 0 0) 0 [] :=
  World.ownsRow_made w #[] 0 h (by decide) rfl

theorem set_nat {ns : List Nat} {k n x : Nat} (hn : ns.length = n) (hx : ns[k]? = some x) : (natV (ns.take k ++ List.replicate (n - k) 0)).set k (.int .i64 x) = natV (ns.take (k + 1) ++ List.replicate (n - (k + 1)) 0) := by
  obtain ⟨hk, rfl⟩ := List.getElem?_eq_some_iff.1 hx
  rw [show n - k = (n - (k + 1)) + 1 by omega, List.take_succ_eq_append_getElem hk]
  simp only [natV, List.replicate_succ, List.map_append, List.map_cons, List.map_nil, List.append_assoc, List.cons_append, List.nil_append]
  rw [List.set_append_right _ _ (by simp; omega)]
  simp [show k - min k ns.length = 0 by omega]
theorem zero_nat (ns : List Nat) (k n : Nat) (hn : ns.length = n) (hk : k < n) : (natV (ns.take k ++ List.replicate (n - k) 0))[k]? = some (.int .i64 ((0 : Nat) : Int)) := by
  rw [show n - k = (n - (k + 1)) + 1 by omega]
  simp [natV, List.getElem?_append, hn, show ¬ k < min k n by omega, show k - min k n = 0 by omega]

theorem length_lift2 {f : List Nat → List Nat → List Nat} (hf : ∀ us vs : List Nat, us.length = vs.length → (f us vs).length ≤ us.length) (xs ys : List Int) : (lift2 f xs ys).length ≤ 1048576 := by
  unfold lift2
  split
  · rename_i h
    obtain ⟨us, vs, rfl, rfl, ha, hb, hl⟩ := ok_of_fit h
    rw [toNat_castI, toNat_castI, length_castI]
    have := hf us vs hl
    have := ha.len
    omega
  · simp
theorem length_lift1 {f : List Nat → List Nat} (hf : ∀ us : List Nat, Ok us → (f us).length ≤ us.length) (xs : List Int) : (lift1 f xs).length ≤ 1048576 := by
  unfold lift1
  split
  · rename_i h
    obtain ⟨us, rfl, ha⟩ := ok_of_valid h
    rw [toNat_castI, length_castI]
    have := hf us ha
    have := ha.len
    omega
  · simp

theorem length_zip (f : Nat → Nat → Nat) (us vs : List Nat) (h : vs.length = us.length) : (List.zipWith f us vs).length = us.length := by simp [h]

end Go.Proofs.YtmeoclkngjboiaaDoor
