/-
  PROVED HERE: what spec.FindSchedule does. CONDITIONS: as each theorem states.
-/
import Derived.Test.YthlmfjoiicnomaaSqs
import Derived.Test.YthlmfjoiicnomaaOut
namespace Go.Proofs.Ythlmfjoiicnomaa
open Go.RowKit
set_option linter.unusedVariables false
set_option linter.unusedSimpArgs false

theorem Try.info_strrow : (Try.prog.info? 89).map (fun i => (i.zero, i.size, i.bytes)) = some (some (.slice none 0 0), 1, 24) := by kernel_rfl
/-- The answer of FindSchedule. -/
def findRes : Option (List Int) → List Int × Bool
  | some π => (π, true)
  | none => ([], false)
def findSch (p : Prg) (o : List Int) : List Int × Bool := if outValid p o then findRes (bestS p o (start3 p 0)) else ([], false)
theorem own_rows0 {w : World} {g : Nat} (h : w.ownsRow 0 89 1 (.slice (some ⟨g, 0, none⟩) 4096 4096) 4096 (madeCells (Value.slice none 0 0).cells (4096 * 1)).toList) : Tab w g (· = g) (List.replicate 4096 []) := by
  refine ⟨List.replicate 4096 (none, 0), 4096, by rw [List.length_replicate, List.length_replicate], ?_, fun k r xs h1 h2 => ?_, fun i k r s b h1 h2 h3 => ?_, fun k r b h1 h2 => ?_, rfl⟩
  · have e : rowsT (List.replicate 4096 ((none : Option Addr), 0)) (List.replicate 4096 []) = (madeCells (Value.slice none 0 0).cells (4096 * 1)).toList := by
      unfold rowsT
      rw [List.zipWith_replicate]
      simp [toList_madeCells_one, Value.cells]
    rw [e, List.length_replicate]
    exact h
  · have h1 := (List.mem_replicate.1 (List.mem_of_getElem? h1)).2
    have h2 := (List.mem_replicate.1 (List.mem_of_getElem? h2)).2
    subst h1
    subst h2
    exact own_none w 0 _ 1
  · have h1 := (List.mem_replicate.1 (List.mem_of_getElem? h1)).2
    subst h1
    cases h3
  · have h1 := (List.mem_replicate.1 (List.mem_of_getElem? h1)).2
    subst h1
    cases h2
/-- What the search gives. -/
def Fs5 (w : World) (p : Prg) (o : List Int) (v : Value) (w' : World) : Prop :=
  ∃ (π : List Int) (B : Bool) (ar : Option Addr) (cr : Nat), v = .tuple #[.slice ar π.length cr, .bool B] ∧ ((bestS p o (start3 p 0) = some π ∧ B = true) ∨ (bestS p o (start3 p 0) = none ∧ B = false ∧ π = [])) ∧ w'.ownsRow w.heap.size 3 1 (.slice ar π.length cr) π.length (ints π) ∧ Below w.heap.size w w'
/-- What the region's acts make: the first state, the table, the result. -/
structure FsI (w w1 : World) (p : Prg) (o : List Int) (S : Nat → Bool) (ρ : Nat → Value) (wx : World) : Prop where
  below : Below w1.heap.size w1 wx ∨ S 5 = true
  ord : S 5 = true → S 2 = true ∧ S 4 = true
  p2 : S 5 = false → S 2 = true → ∃ (q : Sp) (lo hi : Nat), ρ 2 = q.v (start3 p 0) ∧ Kp wx (fun b => lo ≤ b ∧ b < hi) q (start3 p 0) ∧ hi ≤ wx.heap.size ∧ ∀ g, S 4 = true → vblk (ρ 4) = some g → g < lo ∨ hi ≤ g
  p4 : S 5 = false → S 4 = true → ∃ g, ρ 4 = .slice (some ⟨g, 0, none⟩) 4096 4096 ∧ w1.heap.size ≤ g ∧ g < wx.heap.size ∧ Tab wx g (· = g) (List.replicate 4096 [])
  p5 : S 5 = true → Fs5 w p o (ρ 5) wx
section
variable {w w1 wx w2 : World} {p : Prg} {o : List Int} {S : Nat → Bool} {ρ : Nat → Value}
theorem FsI.no5 (h : FsI w w1 p o S ρ wx) (h2 : S 2 = false ∨ S 4 = false) : S 5 = false := by
  cases h5 : S 5 with
  | false => rfl
  | true =>
    obtain ⟨e2, e4⟩ := h.ord h5
    rcases h2 with h2 | h2
    · rw [e2] at h2; cases h2
    · rw [e4] at h2; cases h2
theorem FsI.bel (h : FsI w w1 p o S ρ wx) (h5 : S 5 = false) : Below w1.heap.size w1 wx := by
  rcases h.below with h | h
  · exact h
  · rw [h] at h5; cases h5
theorem FsI.start {q : Sp} (h : FsI w w1 p o S ρ wx) (hS : S 2 = false) (hb : Below wx.heap.size wx w2) (hf : Fresh w2 wx.heap.size q (start3 p 0)) : FsI w w1 p o (FR.upd S 2 true) (FR.upd ρ 2 (q.v (start3 p 0))) w2 := by
  have h5 := h.no5 (.inl hS)
  have h1 := h.bel h5
  have e5 : FR.upd S 2 true 5 = false := by rw [FR.upd_ne _ _ (by decide)]; exact h5
  refine ⟨.inl (h1.trans (hb.mono h1.size)), fun e => (by rw [e5] at e; cases e), fun _ _ => ⟨q, wx.heap.size, w2.heap.size, by rw [FR.upd_same], hf.kp, Nat.le_refl _, fun g hS hg => ?_⟩, fun _ hS => ?_, fun e => (by rw [e5] at e; cases e)⟩
  · rw [FR.upd_ne _ _ (by decide)] at hS hg
    obtain ⟨g', e, _, hlt, _⟩ := h.p4 h5 hS
    rw [e] at hg
    have : g' = g := by simpa [vblk, blk] using hg
    omega
  · rw [FR.upd_ne _ _ (by decide)] at hS ⊢
    obtain ⟨g', e, hl, hlt, ht⟩ := h.p4 h5 hS
    exact ⟨g', e, hl, Nat.lt_of_lt_of_le hlt hb.size, ht.below hb⟩
theorem FsI.table (h : FsI w w1 p o S ρ wx) (hS : S 4 = false) (hb : Below wx.heap.size wx w2) (hlt : wx.heap.size < w2.heap.size) (ht : Tab w2 wx.heap.size (· = wx.heap.size) (List.replicate 4096 [])) : FsI w w1 p o (FR.upd S 4 true) (FR.upd ρ 4 (.slice (some ⟨wx.heap.size, 0, none⟩) 4096 4096)) w2 := by
  have h5 := h.no5 (.inr hS)
  have h1 := h.bel h5
  have e5 : FR.upd S 4 true 5 = false := by rw [FR.upd_ne _ _ (by decide)]; exact h5
  refine ⟨.inl (h1.trans (hb.mono h1.size)), fun e => (by rw [e5] at e; cases e), fun _ hS => ?_, fun _ _ => ⟨wx.heap.size, by rw [FR.upd_same], h1.size, hlt, ht⟩, fun e => (by rw [e5] at e; cases e)⟩
  rw [FR.upd_ne _ _ (by decide)] at hS ⊢
  obtain ⟨q, lo, hi, e, hk, hle, _⟩ := h.p2 h5 hS
  refine ⟨q, lo, hi, e, hk.step (S := fun _ => False) (Keeps.of_below hb) (fun _ e => e.elim), Nat.le_trans hle hb.size, fun g _ hg => ?_⟩
  rw [FR.upd_same] at hg
  have : wx.heap.size = g := by simpa [vblk, blk] using hg
  omega
theorem FsI.find {v : Value} (h2 : S 2 = true) (h4 : S 4 = true) (hv : Fs5 w p o v w2) : FsI w w1 p o (FR.upd S 5 true) (FR.upd ρ 5 v) w2 := by
  have e5 : FR.upd S 5 true 5 = true := FR.upd_same ..
  refine ⟨.inr e5, fun _ => ⟨by rw [FR.upd_ne _ _ (by decide)]; exact h2, by rw [FR.upd_ne _ _ (by decide)]; exact h4⟩, fun e => (by rw [e5] at e; cases e), fun e => (by rw [e5] at e; cases e), fun _ => by rw [FR.upd_same]; exact hv⟩
end
end Go.Proofs.Ythlmfjoiicnomaa
