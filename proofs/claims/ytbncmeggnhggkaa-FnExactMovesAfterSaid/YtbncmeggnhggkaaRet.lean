/-
  PROVED HERE: words for a result of numbers and a flag; plain facts on steps of a machine. CONDITIONS: as each lemma states.
-/
import Derived.Test.YtbncmeggnhggkaaSt
import Derived.Test.YtbncmeggnhggkaaApp
namespace Go.Proofs.Ytbncmeggnhggkaa
open Go.RowKit
set_option linter.unusedVariables false
set_option linter.unusedSimpArgs false

abbrev RetLB (w : World) (r : List Int × Bool) (e : Ending) (w' : World) : Prop :=
  ∃ a cap, e = .returned (.tuple #[.slice a r.1.length cap, .bool r.2]) ∧ OwI w' w.heap.size a cap r.1 ∧ Below w.heap.size w w'
abbrev RetL (w : World) (r : List Int) (e : Ending) (w' : World) : Prop :=
  ∃ a cap, e = .returned (.slice a r.length cap) ∧ OwI w' w.heap.size a cap r ∧ Below w.heap.size w w'
/-- The empty literal and false. -/
theorem retLB_lit {w w1 : World} (hb : Below w.heap.size w w1) : RetLB w ([], false) (.returned (.tuple #[.slice (some ⟨w1.heap.size, 0, none⟩) 0 0, .bool false])) (w1.alloc (.cells #[] 3)) :=
  ⟨_, 0, rfl, own_lit0 w1 _ _ 1 hb.size, hb.alloc hb.size _⟩
theorem retLB_nil {w w1 : World} (hb : Below w.heap.size w w1) : RetLB w ([], false) (.returned (.tuple #[.slice none 0 0, .bool false])) w1 :=
  ⟨none, 0, rfl, own_none w1 _ _ 1, hb⟩

theorem follow_append {σ : Type} (mv : σ → List Int) (st : σ → Int → σ) : ∀ (xs ys : List Int) (s : σ), follow mv st s (xs ++ ys) = (follow mv st s xs).bind fun s' => follow mv st s' ys
  | [], ys, s => rfl
  | x :: xs, ys, s => by
    simp only [List.cons_append, follow]
    split
    · exact follow_append mv st xs ys _
    · rfl
theorem follow_one {σ : Type} (mv : σ → List Int) (st : σ → Int → σ) (s : σ) (m : Int) : follow mv st s [m] = if m ∈ mv s then some (st s m) else none := by
  simp [follow]
theorem take_snoc {xs : List Int} {k : Nat} {x : Int} (h : xs[k]? = some x) : xs.take (k + 1) = xs.take k ++ [x] := by
  rw [List.take_add_one, h]; rfl
theorem follow_step {σ : Type} {mv : σ → List Int} {st : σ → Int → σ} {s0 s : σ} {xs : List Int} {k : Nat} {x : Int} (h : follow mv st s0 (xs.take k) = some s) (hx : xs[k]? = some x) (hm : x ∈ mv s) : follow mv st s0 (xs.take (k + 1)) = some (st s x) := by
  rw [take_snoc hx, follow_append, h, Option.bind_some, follow_one, if_pos hm]
theorem follow_stop {σ : Type} {mv : σ → List Int} {st : σ → Int → σ} {s0 s : σ} {xs : List Int} {k : Nat} {x : Int} (h : follow mv st s0 (xs.take k) = some s) (hx : xs[k]? = some x) (hm : x ∉ mv s) : follow mv st s0 xs = none := by
  have e : xs = xs.take (k + 1) ++ xs.drop (k + 1) := (List.take_append_drop _ _).symm
  rw [e, follow_append, take_snoc hx, follow_append, h, Option.bind_some, follow_one, if_neg hm]
  rfl
theorem follow_all {σ : Type} {mv : σ → List Int} {st : σ → Int → σ} {s0 s : σ} {xs : List Int} {k : Nat} (h : follow mv st s0 (xs.take k) = some s) (hk : xs.length ≤ k) : follow mv st s0 xs = some s := by
  rwa [List.take_of_length_le hk] at h
/-- The result of a run: the outcome if all steps are possible and the program is done. -/
def runRes {σ : Type} (done : σ → Bool) (out : σ → List Int) : Option σ → List Int × Bool
  | some s => if done s then (out s, true) else ([], false)
  | none => ([], false)
def seqRun (p : Prg) (ms : List Int) : Option St := follow (moves3 p) (fun s m => do3 p s m.toNat) (start3 p 0) ms
def runSch (p : Prg) (ms : List Int) : List Int × Bool := if progValid p then runRes (done3 p) out3 (seqRun p ms) else ([], false)
theorem out3_len {p : Prg} {s : St} (h : Good p s) (hv : Shape p) : (out3 s).length ≤ 12 := by
  have := hv.len
  simp [out3, h.regl, h.meml]; omega
theorem follow_good {p : Prg} {mv : St → List Int} {st : St → Int → St} (hst : ∀ s m, Good p s → m ∈ mv s → Good p (st s m)) : ∀ (ms : List Int) (s s' : St), Good p s → follow mv st s ms = some s' → Good p s'
  | [], s, s', h, e => by simp [follow] at e; rw [← e]; exact h
  | m :: ms, s, s', h, e => by
    simp only [follow] at e
    split at e
    · exact follow_good hst ms _ _ (hst s m h (by assumption)) e
    · cases e
theorem seq_good {p : Prg} (hv : Shape p) (s : St) (m : Int) (h : Good p s) (hm : m ∈ moves3 p s) : Good p (do3 p s m.toNat) := by
  obtain ⟨t, rfl, _, ht⟩ := (mem_moves3 m).1 hm
  exact h.do3 hv (by simpa using ht)
theorem runSch_len (p : Prg) (ms : List Int) : (runSch p ms).1.length ≤ 1048576 := by
  unfold runSch
  split
  · rename_i hv
    have hsh := (valid_of hv).toShape
    unfold runRes
    split
    · rename_i s hs
      split
      · have := out3_len (follow_good (seq_good hsh) _ _ _ (good_start p 0) hs) hsh
        dsimp only
        omega
      · simp
    · simp
  · simp
end Go.Proofs.Ytbncmeggnhggkaa
