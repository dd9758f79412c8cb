/-
  PROVED HERE: what the Draw functions of relations do: some lists of numbers, in memory of their own. CONDITIONS: as each theorem states.
-/
import Derived.Test.YtmeoclkngjboiaaDoorDrawOrd
import Derived.Test.YtmeoclkngjboiaaDoorRelC
namespace Go.Proofs.YtmeoclkngjboiaaDoor
open Go.RowKit
set_option linter.unusedVariables false
set_option linter.unusedSimpArgs false

/-- Some list of numbers, in memory of the call's own. -/
def Drawn1 (w : World) (e : Ending) (w' : World) : Prop := ∃ ys : List Int, RetI w ys e w' ∧ ys.length ≤ 17
/-- Two of them. -/
def Drawn2 (w : World) (e : Ending) (w' : World) : Prop := ∃ (xs ys : List Int) (a a' : Option Addr) (c c' : Nat), e = .returned (.tuple #[.slice a xs.length c, .slice a' ys.length c']) ∧ OwI w' w.heap.size a c xs ∧ OwI w' w.heap.size a' c' ys ∧ Below w.heap.size w w' ∧ xs.length ≤ 17 ∧ ys.length ≤ 17
def DrawArgs (w : World) (a : Option Addr) (cap : Nat) (bs : List Int) : Prop := Rd w a (bytes bs) ∧ (∀ x ∈ bs, 0 ≤ x ∧ x ≤ 255) ∧ bs.length ≤ 1048576 ∧ bs.length ≤ cap ∧ cap ≤ 9223372036854775807
theorem DrawArgs.below {w w' : World} {a : Option Addr} {cap : Nat} {bs : List Int} (h : DrawArgs w a cap bs) (hb : Below w.heap.size w w') : DrawArgs w' a cap bs := ⟨h.1.below hb, h.2⟩
theorem DrawArgs.open {w : World} {a : Option Addr} {cap : Nat} {bs : List Int} (h : DrawArgs w a cap bs) :
    Calls Tryd.prog 45 #[.slice a bs.length cap] w fun e w' => ∃ (bs' : List Int), e = .returned (.pointer (some ⟨w.heap.size, 0, none⟩)) ∧ Rdr w' w.heap.size bs' 0 ∧ Below w.heap.size w w' :=
  open_c w a cap bs h.1 h.2.1 h.2.2.1 h.2.2.2.1 h.2.2.2.2

theorem drawRelValid_c (w : World) (a : Option Addr) (cap : Nat) (bs : List Int) (h : DrawArgs w a cap bs) :
    Calls Tryd.prog 54 #[.slice a bs.length cap] w (Drawn1 w) := by
  have CO := hid h.open
  obtain ⟨N, hN⟩ : ∃ N, N = bs.length := ⟨_, rfl⟩
  rw [← hN] at CO ⊢
  clear h hN
  go_enter Tryd.func54, Tryd.ntmps54
  go_wp2_with fail
  refine CO.out.mono ?_
  rintro e w1 ⟨bs', rfl, hr1, hb1⟩
  have hlt1 := hr1.lt
  go_wp2_with fail
  refine (l2Size_c w1 _ bs' 0 hr1 (by omega)).mono ?_
  rintro e w2 ⟨n, rfl, hn, hr2, hg2⟩
  have hb2 := below_rdr hb1 hg2 (Nat.le_refl _) hb1.size
  go_wp2_with fail
  refine (l2Draw_c w2 _ bs' 1 n hr2 (by omega) (by omega)).mono ?_
  rintro e w3 ⟨ys, a3, c3, p3, rfl, hyl, hown3, hr3, hp3, hg3⟩
  have hb3 := below_rdr hb2 hg3 (Nat.le_refl _) hb2.size
  replace hyl : ys.length ≤ 16 := by omega
  go_wp2_with fail
  refine (l2Mutate_c w3 _ bs' p3 a3 c3 ys hr3 (by omega) (Rd.own hown3) hyl).mono ?_
  rintro e w5 ⟨zs, a5, c5, p5, rfl, hzl, hown5, hr5, hp5, hg5⟩
  have hh := hb3.size
  go_wp2
  go_ret
  exact ⟨zs, ⟨a5, c5, rfl, own_up hown5 hh, below_rdr hb3 hg5 (Nat.le_refl _) hh⟩, hzl⟩

theorem drawFormatRel_c (w : World) (a : Option Addr) (cap : Nat) (bs : List Int) (h : DrawArgs w a cap bs) :
    Calls Tryd.prog 23 #[.slice a bs.length cap] w (Drawn1 w) := by
  have C := hid (drawRelValid_c w a cap bs h)
  obtain ⟨N, hN⟩ : ∃ N, N = bs.length := ⟨_, rfl⟩
  rw [← hN] at C ⊢
  clear h hN
  go_enter Tryd.func23, Tryd.ntmps23
  go_wp2_with fail
  refine C.out.mono ?_
  rintro e w1 ⟨zs, ⟨a5, c5, rfl, h5, hb5⟩, hzl⟩
  go_wp2
  go_ret
  exact ⟨zs, ⟨a5, c5, rfl, h5, hb5⟩, hzl⟩








end Go.Proofs.YtmeoclkngjboiaaDoor
