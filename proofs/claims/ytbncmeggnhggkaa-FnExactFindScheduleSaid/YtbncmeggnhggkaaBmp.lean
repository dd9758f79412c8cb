/-
  PROVED HERE: words for a map of texts to flags, its look-up and its store at the operation. CONDITIONS: as each theorem states.
-/
import Derived.Test.YtbncmeggnhggkaaLes
import Derived.Maps.OwnSet
namespace Go.Proofs.Ytbncmeggnhggkaa
open Go.RowKit Go.Maps
set_option linter.unusedVariables false
set_option linter.unusedSimpArgs false

def boolElem : Value → Option (DataW Unit × List MemPlace)
  | .bool b => some (.lit (.bool b), [])
  | _ => none
theorem boolElem_inv {v : Value} {b : Bool} {ps : List MemPlace} (h : boolElem v = some (.lit (.bool b), ps)) : v = .bool b := by
  unfold boolElem at h
  split at h
  · simp only [Option.some.injEq, Prod.mk.injEq, DataW.lit.injEq, Lit.bool.injEq] at h
    rw [h.1]
  · cases h
/-- The texts that the map holds. -/
def Fm (L : List (List UInt8)) : DataW Unit := L.foldl (fun D l => D.put (.string l) (.lit (.bool true))) (.map [])
theorem Fm_snoc (L : List (List UInt8)) (l : List UInt8) : Fm (L ++ [l]) = (Fm L).put (.string l) (.lit (.bool true)) := by simp [Fm, List.foldl_append]
theorem Fm_map (L : List (List UInt8)) : IsMap (Fm L) := by
  have : ∀ (L : List (List UInt8)) (D : DataW Unit), IsMap D → IsMap (L.foldl (fun D l => D.put (.string l) (.lit (.bool true))) D) := by
    intro L
    induction L with
    | nil => intro D h; exact h
    | cons x L ih => intro D h; exact ih _ (h.put _ _)
  exact this L _ isMap_empty
theorem Fm_at (l : List UInt8) : ∀ (n : Nat) (L : List (List UInt8)), L.length = n → (Fm L).atKey (.string l) (.lit (.bool false)) = .lit (.bool (decide (l ∈ L)))
  | 0, L, hn => by
    have e : L = [] := List.eq_nil_of_length_eq_zero hn
    subst e
    rfl
  | n + 1, L, hn => by
    rcases List.eq_nil_or_concat L with e | ⟨M, x, e⟩
    · subst e
      simp at hn
    · rw [List.concat_eq_append] at e
      subst e
      have ih := Fm_at l n M (by simpa using hn)
      rw [Fm_snoc]
      by_cases h : x = l
      · subst h
        rw [atKey_put_same (k := Lit.string x) (Fm_map M) trivial]
        simp
      · have hk : (Lit.string l) ≠ .string x := fun e => h (Lit.string.inj e).symm
        rw [atKey_put_other hk, ih]
        congr 2
        simp
        intro e
        exact absurd e.symm h
theorem txtLaw : Keyed Try.prog 9 := string_keyed Try.underlying9
theorem zeroBool (w : World) : (zeroValue 4).run Try.prog w = .ok (.bool false) w := by kernel_rfl
/-- The map in block b holds just the texts of L. -/
abbrev BMap (w : World) (b : Nat) (L : List (List UInt8)) : Prop := w.ownsMap Try.prog 9 boolElem b L.length (Fm L)
theorem BMap.keeps {w w' : World} {b : Nat} {L : List (List UInt8)} {S : Nat → Prop} (h : BMap w b L) (hk : Keeps S w w') (hs : ¬ S b) : BMap w' b L := by
  obtain ⟨es, clock, h1, h2⟩ := h
  exact ⟨es, clock, (hk.block b (Array.getElem?_eq_some_iff.1 h1).1 hs).trans h1, h2⟩
theorem BMap.lt {w : World} {b : Nat} {L : List (List UInt8)} (h : BMap w b L) : b < w.heap.size := by
  obtain ⟨es, clock, h1, h2⟩ := h
  exact (Array.getElem?_eq_some_iff.1 h1).1
theorem key_txt (t : ByteArray) (hl : t.size ≤ 2000000) : keyOf Try.prog 9 (.string t) = some (.string t.data.toList) :=
  Go.WideMaps.keyOf_string_mk Try.underlying9 (s := t) (by unfold maxLen; omega)
theorem run_lookB {w : World} {b : Nat} {L : List (List UInt8)} (h : BMap w b L) (t : ByteArray) (hl : t.size ≤ 2000000) : (Instr.lookup 127 (.map (some b)) (.string t) false).run Try.prog w = .ok (.bool (decide (t.data.toList ∈ L))) w := by
  obtain ⟨es, clock, hb, F, _, hD⟩ := h
  have hat := Fm_at t.data.toList _ L rfl
  rcases Maps.fit_look false txtLaw Try.underlying127 (zeroBool w) hb F (key_txt t hl) with ⟨hrun, _, hat'⟩ | ⟨e0, y, _, _, hrun, hRv, hat', _⟩
  · have e := hat' (DataW.lit (Lit.bool false))
    rw [← hD, hat] at e
    have e2 : decide (t.data.toList ∈ L) = false := by simpa using e
    rw [e2]
    exact hrun
  · have e := hat' (DataW.lit (Lit.bool false))
    rw [← hD, hat] at e
    have hv : e0.val = .bool (decide (t.data.toList ∈ L)) := boolElem_inv (ps := y.2) (by rw [e]; exact hRv)
    rw [← hv]
    exact hrun
theorem run_putB {w : World} {b : Nat} {L : List (List UInt8)} (h : BMap w b L) (t : ByteArray) (hl : t.size ≤ 2000000) (hn : L.length < 9000000000000000000) :
    ∃ w', (Instr.mapUpdate 127 (.map (some b)) (.string t) (.bool true)).run Try.prog w = .ok () w' ∧ BMap w' b (L ++ [t.data.toList]) ∧ w.grownBy w' (some b) := by
  obtain ⟨w', h1, h2, h3⟩ := h.update txtLaw Try.underlying127 (by unfold maxLen; omega) (key_txt t hl) (show boolElem (.bool true) = some (.lit (.bool true), []) from rfl)
  rw [← Fm_snoc] at h2
  exact ⟨w', h1, by unfold BMap; rw [List.length_append, List.length_singleton]; exact h2, h3⟩
end Go.Proofs.Ytbncmeggnhggkaa
