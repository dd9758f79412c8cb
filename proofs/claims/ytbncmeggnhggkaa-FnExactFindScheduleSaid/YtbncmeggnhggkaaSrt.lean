/-
  PROVED HERE: what impl.search and impl.FindSchedule do. CONDITIONS: as each theorem states.
-/
import Derived.Test.YtbncmeggnhggkaaSrd
import Derived.Test.YtbncmeggnhggkaaFns
namespace Go.Proofs.Ytbncmeggnhggkaa
open Go.RowKit Go.Maps
set_option linter.unusedVariables false
set_option linter.unusedSimpArgs false

/-- What impl.search has laid when it calls its closure. -/
def srWorld (w : World) (ao : Option Addr) (no co : Nat) : World :=
  (((((w.alloc (.cells #[.slice ao no co] 23)).alloc (.map #[] 0)).alloc (.cells #[.map (some (w.heap.size + 1))] 127)).alloc (.cells #[] 3)).alloc (.cells #[.slice (some ⟨w.heap.size + 3, 0, none⟩) 0 0] 23)).alloc (.cells #[fromV w.heap.size] 128)
theorem srWorld_below (w : World) (ao : Option Addr) (no co : Nat) : Below w.heap.size w (srWorld w ao no co) := by
  unfold srWorld
  exact (((((((Below.refl w.heap.size w).alloc (Nat.le_refl _) _).alloc (by simp) _).alloc (by simp; omega) _).alloc (by simp; omega) _).alloc (by simp; omega) _).alloc (by simp; omega) _)
theorem srWorld_start (w : World) (ao : Option Addr) (no co : Nat) : SrW w (srWorld w ao no co) ao no co w.heap.size [] (some ⟨w.heap.size + 3, 0, none⟩) 0 0 [] := by
  have hb := srWorld_below w ao no co
  obtain ⟨w1, hw1⟩ : ∃ w1, w1 = w.alloc (.cells #[.slice ao no co] 23) := ⟨_, rfl⟩
  obtain ⟨w2, hw2⟩ : ∃ w2, w2 = w1.alloc (.map #[] 0) := ⟨_, rfl⟩
  obtain ⟨w3, hw3⟩ : ∃ w3, w3 = w2.alloc (.cells #[.map (some (w.heap.size + 1))] 127) := ⟨_, rfl⟩
  obtain ⟨w4, hw4⟩ : ∃ w4, w4 = w3.alloc (.cells #[] 3) := ⟨_, rfl⟩
  obtain ⟨w5, hw5⟩ : ∃ w5, w5 = w4.alloc (.cells #[.slice (some ⟨w.heap.size + 3, 0, none⟩) 0 0] 23) := ⟨_, rfl⟩
  obtain ⟨w6, hw6⟩ : ∃ w6, w6 = w5.alloc (.cells #[fromV w.heap.size] 128) := ⟨_, rfl⟩
  have e : srWorld w ao no co = w6 := by rw [hw6, hw5, hw4, hw3, hw2, hw1]; rfl
  rw [e] at hb ⊢
  have s1 : w1.heap.size = w.heap.size + 1 := by rw [hw1]; simp
  have s2 : w2.heap.size = w.heap.size + 2 := by rw [hw2]; simp; omega
  have s3 : w3.heap.size = w.heap.size + 3 := by rw [hw3]; simp; omega
  have s4 : w4.heap.size = w.heap.size + 4 := by rw [hw4]; simp; omega
  have s5 : w5.heap.size = w.heap.size + 5 := by rw [hw5]; simp; omega
  have s6 : w6.heap.size = w.heap.size + 6 := by rw [hw6]; simp; omega
  have b56 : Below w5.heap.size w5 w6 := by rw [hw6]; exact (Below.refl _ _).alloc (Nat.le_refl _) _
  have b45 : Below w4.heap.size w4 w5 := by rw [hw5]; exact (Below.refl _ _).alloc (Nat.le_refl _) _
  have b34 : Below w3.heap.size w3 w4 := by rw [hw4]; exact (Below.refl _ _).alloc (Nat.le_refl _) _
  have b23 : Below w2.heap.size w2 w3 := by rw [hw3]; exact (Below.refl _ _).alloc (Nat.le_refl _) _
  have b12 : Below w1.heap.size w1 w2 := by rw [hw2]; exact (Below.refl _ _).alloc (Nat.le_refl _) _
  have b46 := b45.trans (b56.mono b45.size)
  have b36 := b34.trans (b46.mono b34.size)
  have b26 := b23.trans (b36.mono b23.size)
  have b16 := b12.trans (b26.mono b12.size)
  have c0 : w1.heap[w.heap.size]? = some (.cells #[.slice ao no co] 23 (0, 0)) := by rw [hw1]; exact heap_alloc_new w _
  have c2 : w3.heap[w.heap.size + 2]? = some (.cells #[.map (some (w.heap.size + 1))] 127 (0, 0)) := by rw [← s2, hw3]; exact heap_alloc_new w2 _
  have c4 : w5.heap[w.heap.size + 4]? = some (.cells #[.slice (some ⟨w.heap.size + 3, 0, none⟩) 0 0] 23 (0, 0)) := by rw [← s4, hw5]; exact heap_alloc_new w4 _
  have c5 : w6.heap[w.heap.size + 5]? = some (.cells #[fromV w.heap.size] 128 (0, 0)) := by rw [← s5, hw6]; exact heap_alloc_new w5 _
  have mp : BMap w2 (w.heap.size + 1) [] := by rw [← s1, hw2]; exact World.ownsMap_made w1 Try.prog 9 boolElem
  have ho : w4.ownsRow w3.heap.size 3 1 (.slice (some ⟨w3.heap.size, 0, none⟩) 0 0) 0 [] := by rw [hw4]; exact own_lit0 w3 w3.heap.size 3 1 (Nat.le_refl _)
  rw [s3] at ho
  refine ⟨hb, Nat.le_refl _, by omega, (b16.block _ (by omega)).trans c0, mp.keeps (S := fun _ => False) (Keeps.of_below b26) (fun e => e), (b36.block _ (by omega)).trans c2, (b56.block _ (by omega)).trans c4, c5, own_below ho b46, fun j hj => .inl ?_⟩
  simp [blk] at hj
  omega
set_option maxRecDepth 100000 in
set_option maxHeartbeats 3200000 in
theorem search_c (w : World) (b : Nat) (p : Prg) (o : List Int) (ao : Option Addr) (co : Nat) (h : MAt 94 [] w b p (start3 p 0)) (ho : Rd w ao (ints o)) (hv : progValid p = true) (hol : o.length = p.length * 3 + 3) :
    Calls Try.prog 57 #[.iface 88 (.pointer (some ⟨b, 0, none⟩)), .slice ao o.length co] w (RetLB w (findRes (bestS p o (start3 p 0)))) := by
  obtain ⟨⟨a, cap, hat, hrp⟩, hgd⟩ := h
  have hfc := from_c w a cap p o ao o.length co w.heap.size hrp ho rfl hv hol (left4 p (start3 p 0))
  unfold FromC at hfc
  have HFC := hid hfc
  have HAT := hid hat
  have HSH := hid (valid_of hv).toShape
  have hno : o.length ≤ 12 := by have := HSH.out.len; omega
  obtain ⟨no, hno'⟩ : ∃ no, no = o.length := ⟨_, rfl⟩
  rw [← hno'] at HFC hno ⊢
  clear hno' hfc hat hrp hgd ho hv hol
  have hmk := @run_makeMap Try.prog
  have hst := fun W B f cs xs => run_store Try.prog W ⟨B, 0, none⟩ (.func f cs xs) .plain rfl
  go_enter Try.func57, Try.ntmps57
  go_wp2_with fail
  have hb6 := srWorld_below w ao no co
  have hs6 := srWorld_start w ao no co
  have hlt := (Array.getElem?_eq_some_iff.1 HAT.out).1
  refine (HFC.out (srWorld w ao no co) b (start3 p 0) [] (some ⟨w.heap.size + 3, 0, none⟩) 0 0 [] rfl (G3.start p) rfl (by have := left4_le (G3.start p) HSH.out; omega) hs6 ⟨(hb6.block _ hlt).trans HAT.out, fun e => by
    rcases e with e | e | e
    · omega
    · omega
    · simp [blk] at e; omega⟩ (FailOk.start p o)).mono ?_
  rintro e w9 ⟨B, π, L9, ra9, rc9, m9, rfl, hres, hm9, hw9, hf9, hg9, hk9, hn9⟩
  have HRES := hid hres
  have HM9 := hid hm9
  have HW9 := hid hw9
  clear hres hm9 hw9 hf9 hg9 hk9 hn9 hb6 hs6
  cases B
  · have hbn : bestS p o (start3 p 0) = none := by
      rcases HRES.out with ⟨_, h⟩ | ⟨h, _⟩
      · cases h
      · exact h
    have HE := hid hbn
    clear hbn
    go_wp2_with fail
    go_ret2
    rw [HE.out]
    exact retLB_nil HW9.out.below
  · have hbs : bestS p o (start3 p 0) = some π := by
      rcases HRES.out with ⟨h, _⟩ | ⟨_, h, _⟩
      · exact h
      · cases h
    have HE := hid hbs
    have c4 : w9.cell? ⟨w.heap.size + 4, 0, none⟩ = some (.slice ra9 m9 rc9) := cell_of_row w9 (w.heap.size + 4) 0 _ _ _ HW9.out.c4
    clear hbs
    go_wp2_with fail
    go_ret2
    rw [HE.out]
    have hm9' : m9 = π.length := by rw [HM9.out]; rfl
    subst hm9'
    exact ⟨ra9, rc9, rfl, own_base HW9.out.row (Nat.le_add_right _ _), HW9.out.below⟩
end Go.Proofs.Ytbncmeggnhggkaa
