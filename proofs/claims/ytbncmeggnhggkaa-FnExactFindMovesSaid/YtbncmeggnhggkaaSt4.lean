/-
  PROVED HERE: what impl.search does with store buffers, what impl.FindMoves does. CONDITIONS: as each theorem states.
-/
import Derived.Test.YtbncmeggnhggkaaSr4
import Derived.Test.YtbncmeggnhggkaaFms
namespace Go.Proofs.Ytbncmeggnhggkaa
open Go.RowKit Go.Maps
set_option linter.unusedVariables false
set_option linter.unusedSimpArgs false

/-- A state keeps away from blocks that are new. -/
theorem BAt.away {w : World} {g : Nat} {p : Prg} {split : Bool} {s : St} {F : Nat → Prop} (h : BAt w g p split s) (hp0 : p.length ≠ 0) (hF : ∀ k, F k → w.heap.size ≤ k) : ∃ a cap, RdP w a p ∧ BAtX w F a cap g p split s := by
  obtain ⟨⟨a, cap, wa, wc, h1, h2, ⟨rs, hl, hr, hi⟩, h4⟩, hg⟩ := h
  refine ⟨a, cap, h2, ⟨⟨wa, wc, h1, fun e => ?_, ⟨rs, hl, hr, fun b hb e => ?_, fun k r xs q1 q2 => ⟨(hi k r xs q1 q2).1, (hi k r xs q1 q2).2, fun hne b hb e => ?_⟩⟩, h4⟩, hg⟩⟩
  · have := hF g e
    have := (Array.getElem?_eq_some_iff.1 h1).1
    omega
  · rcases hr with hc | ⟨b', off, rfl, hlt, _⟩
    · have hz : s.buf = [] := by
        have := congrArg List.length hc
        rw [length_rowsW hl] at this
        exact List.eq_nil_of_length_eq_zero (by simpa using this)
      have h1 := hg.bufl
      rw [hz] at h1
      have h2 := nb_pos split
      rcases Nat.mul_eq_zero.1 h1.symm with h3 | h3
      · exact (hp0 h3).elim
      · omega
    · have := hF b e
      simp [blk] at hb
      omega
  · rcases (hi k r xs q1 q2).1 with hc | ⟨b', off, hx, hlt, _⟩
    · exact hne (by simpa [bytesB] using hc)
    · have := hF b e
      rw [hx] at hb
      simp [blk] at hb
      omega
/-- What impl.search has laid when it calls its closure. -/
def srWorld4 (w : World) (ao : Option Addr) (no co : Nat) : World :=
  (((((w.alloc (.cells #[.slice ao no co] 23)).alloc (.map #[] 0)).alloc (.cells #[.map (some (w.heap.size + 1))] 127)).alloc (.cells #[] 3)).alloc (.cells #[.slice (some ⟨w.heap.size + 3, 0, none⟩) 0 0] 23)).alloc (.cells #[fromV w.heap.size] 128)
theorem srWorld4_below (w : World) (ao : Option Addr) (no co : Nat) : Below w.heap.size w (srWorld4 w ao no co) := by
  unfold srWorld4
  exact (((((((Below.refl w.heap.size w).alloc (Nat.le_refl _) _).alloc (by simp) _).alloc (by simp; omega) _).alloc (by simp; omega) _).alloc (by simp; omega) _).alloc (by simp; omega) _)
theorem srWorld4_start (w : World) (ao : Option Addr) (no co : Nat) : SrW w (srWorld4 w ao no co) ao no co w.heap.size [] (some ⟨w.heap.size + 3, 0, none⟩) 0 0 [] := by
  have hb := srWorld4_below w ao no co
  obtain ⟨w1, hw1⟩ : ∃ w1, w1 = w.alloc (.cells #[.slice ao no co] 23) := ⟨_, rfl⟩
  obtain ⟨w2, hw2⟩ : ∃ w2, w2 = w1.alloc (.map #[] 0) := ⟨_, rfl⟩
  obtain ⟨w3, hw3⟩ : ∃ w3, w3 = w2.alloc (.cells #[.map (some (w.heap.size + 1))] 127) := ⟨_, rfl⟩
  obtain ⟨w4, hw4⟩ : ∃ w4, w4 = w3.alloc (.cells #[] 3) := ⟨_, rfl⟩
  obtain ⟨w5, hw5⟩ : ∃ w5, w5 = w4.alloc (.cells #[.slice (some ⟨w.heap.size + 3, 0, none⟩) 0 0] 23) := ⟨_, rfl⟩
  obtain ⟨w6, hw6⟩ : ∃ w6, w6 = w5.alloc (.cells #[fromV w.heap.size] 128) := ⟨_, rfl⟩
  have e : srWorld4 w ao no co = w6 := by rw [hw6, hw5, hw4, hw3, hw2, hw1]; rfl
  rw [e] at hb ⊢
  have s1 : w1.heap.size = w.heap.size + 1 := by rw [hw1]; simp
  have s2 : w2.heap.size = w.heap.size + 2 := by rw [hw2]; simp; omega
  have s3 : w3.heap.size = w.heap.size + 3 := by rw [hw3]; simp; omega
  have s4 : w4.heap.size = w.heap.size + 4 := by rw [hw4]; simp; omega
  have s5 : w5.heap.size = w.heap.size + 5 := by rw [hw5]; simp; omega
  have s6 : w6.heap.size = w.heap.size + 6 := by rw [hw6]; simp; omega
  have b56 : Below w5.heap.size w5 w6 := by rw [hw6]; exact (Below.refl _ _).alloc (Nat.le_refl _) _
  have b45 : Below w4.heap.size w4 w5 := by rw [hw5]; exact (Below.refl _ _).alloc (Nat.le_refl _) _
  have b34 : Below w3.heap.size w3 w4 := by rw [hw4]; exact (Below.refl _ _).alloc (Nat.le_refl _) _
  have b23 : Below w2.heap.size w2 w3 := by rw [hw3]; exact (Below.refl _ _).alloc (Nat.le_refl _) _
  have b12 : Below w1.heap.size w1 w2 := by rw [hw2]; exact (Below.refl _ _).alloc (Nat.le_refl _) _
  have b46 := b45.trans (b56.mono b45.size)
  have b36 := b34.trans (b46.mono b34.size)
  have b26 := b23.trans (b36.mono b23.size)
  have b16 := b12.trans (b26.mono b12.size)
  have c0 : w1.heap[w.heap.size]? = some (.cells #[.slice ao no co] 23 (0, 0)) := by rw [hw1]; exact heap_alloc_new w _
  have c2 : w3.heap[w.heap.size + 2]? = some (.cells #[.map (some (w.heap.size + 1))] 127 (0, 0)) := by rw [← s2, hw3]; exact heap_alloc_new w2 _
  have c4 : w5.heap[w.heap.size + 4]? = some (.cells #[.slice (some ⟨w.heap.size + 3, 0, none⟩) 0 0] 23 (0, 0)) := by rw [← s4, hw5]; exact heap_alloc_new w4 _
  have c5 : w6.heap[w.heap.size + 5]? = some (.cells #[fromV w.heap.size] 128 (0, 0)) := by rw [← s5, hw6]; exact heap_alloc_new w5 _
  have mp : BMap w2 (w.heap.size + 1) [] := by rw [← s1, hw2]; exact World.ownsMap_made w1 Try.prog 9 boolElem
  have ho : w4.ownsRow w3.heap.size 3 1 (.slice (some ⟨w3.heap.size, 0, none⟩) 0 0) 0 [] := by rw [hw4]; exact own_lit0 w3 w3.heap.size 3 1 (Nat.le_refl _)
  rw [s3] at ho
  refine ⟨hb, Nat.le_refl _, by omega, (b16.block _ (by omega)).trans c0, mp.keeps (S := fun _ => False) (Keeps.of_below b26) (fun e => e), (b36.block _ (by omega)).trans c2, (b56.block _ (by omega)).trans c4, c5, own_below ho b46, fun j hj => .inl ?_⟩
  simp [blk] at hj
  omega
set_option maxRecDepth 100000 in
set_option maxHeartbeats 3200000 in
theorem search4_c (w : World) (b : Nat) (p : Prg) (split : Bool) (o : List Int) (ao : Option Addr) (co : Nat) (h : BAt w b p split (start4 p split)) (ho : Rd w ao (ints o)) (hv : progValid p = true) (hol : o.length = p.length * 3 + 3) :
    Calls Try.prog 57 #[.iface 100 (.pointer (some ⟨b, 0, none⟩)), .slice ao o.length co] w (RetLB w (findRes (bestM p split o (start4 p split)))) := by
  have hp0 : p.length ≠ 0 := by have := (valid_of hv).pos; omega
  obtain ⟨a, cap, hrp, hat⟩ := h.away (F := SrS w.heap.size (some ⟨w.heap.size + 3, 0, none⟩)) hp0 (fun k e => by
    rcases e with e | e | e
    · omega
    · omega
    · simp [blk] at e; omega)
  have HP0 := hid hp0
  have hfc := from4_c w a cap p split o ao o.length co w.heap.size hrp ho rfl hv hol (left4 p (start4 p split))
  unfold FromC4 at hfc
  have HFC := hid hfc
  have HAT := hid hat
  have HSH := hid (valid_of hv).toShape
  have hno : o.length ≤ 12 := by have := HSH.out.len; omega
  obtain ⟨no, hno'⟩ : ∃ no, no = o.length := ⟨_, rfl⟩
  rw [← hno'] at HFC hno ⊢
  clear hno' hfc hat hrp ho hv hol h hp0
  have hmk := @run_makeMap Try.prog
  have hst := fun W B f cs xs => run_store Try.prog W ⟨B, 0, none⟩ (.func f cs xs) .plain rfl
  go_enter Try.func57, Try.ntmps57
  go_wp2_with fail
  have hb6 := srWorld4_below w ao no co
  have hs6 := srWorld4_start w ao no co
  refine (HFC.out (srWorld4 w ao no co) b (start4 p split) [] (some ⟨w.heap.size + 3, 0, none⟩) 0 0 [] rfl (R4.start p split) rfl (by have := left4_le4 (good_start4 p split) HSH.out; omega) hs6 ⟨HAT.out.below HP0.out hb6, HP0.out⟩ (FailOk4.start p split o)).mono ?_
  rintro e w9 ⟨B, π, L9, ra9, rc9, m9, rfl, hres, hm9, hw9, hf9, hg9, hk9, hn9⟩
  have HRES := hid hres
  have HM9 := hid hm9
  have HW9 := hid hw9
  clear hres hm9 hw9 hf9 hg9 hk9 hn9 hb6 hs6
  cases B
  · have hbn : bestM p split o (start4 p split) = none := by
      rcases HRES.out with ⟨_, h⟩ | ⟨h, _⟩
      · cases h
      · exact h
    have HE := hid hbn
    clear hbn
    go_wp2_with fail
    go_ret2
    rw [HE.out]
    exact retLB_nil HW9.out.below
  · have hbs : bestM p split o (start4 p split) = some π := by
      rcases HRES.out with ⟨h, _⟩ | ⟨_, h, _⟩
      · exact h
      · cases h
    have HE := hid hbs
    have c4 : w9.cell? ⟨w.heap.size + 4, 0, none⟩ = some (.slice ra9 m9 rc9) := cell_of_row w9 (w.heap.size + 4) 0 _ _ _ HW9.out.c4
    clear hbs
    go_wp2_with fail
    go_ret2
    rw [HE.out]
    have hm9' : m9 = π.length := by rw [HM9.out]; rfl
    subst hm9'
    exact ⟨ra9, rc9, rfl, own_base HW9.out.row (Nat.le_add_right _ _), HW9.out.below⟩
theorem fmI_c (w : World) (a : Option Addr) (cap : Nat) (p : Prg) (split : Bool) (a' : Option Addr) (cap' : Nat) (o : List Int) (h : RdP w a p) (h' : Rd w a' (ints o)) (hl : sizeP p ≤ 1048576) (hl' : o.length ≤ 1048576) :
    Calls Try.prog 31 #[.slice a p.length cap, .bool split, .slice a' o.length cap'] w (RetLB w (findMov p split o)) := by
  have HV := hid (ovI_c w a cap p a' cap' o h h' hl hl')
  by_cases hv : outValid p o = true
  · rw [hv] at HV
    have hpv : progValid p = true ∧ o.length = p.length * 3 + 3 := by
      unfold outValid at hv
      simp only [Bool.and_eq_true, decide_eq_true_eq] at hv
      exact ⟨hv.1.1, by have := hv.1.2; omega⟩
    have hsh := (valid_of hpv.1).toShape
    have HRES := hid (show findMov p split o = findRes (bestM p split o (start4 p split)) by unfold findMov; rw [if_pos hv])
    have HNEW := hid (fun w h => newBuffers_c w a cap p split h hsh)
    have HFIN := hid (fun w b h hm => search4_c w b p split o a' cap' h hm hpv.1 hpv.2)
    have HP := hid h
    have HM := hid h'
    rw [HRES.out]
    clear hv hpv hsh hl hl' h h' HRES
    go_enter Try.func31, Try.ntmps31
    go_wp2_with fail
    refine HV.out.mono ?_
    rintro e w1 ⟨rfl, hb1⟩
    have HB1 := hid hb1
    clear hb1
    go_wp2_with fail
    refine (HNEW.out _ (HP.out.below HB1.out)).mono ?_
    rintro e w2 ⟨g2, rfl, hat, hb2⟩
    have HAT := hid hat
    have HB2 := hid (HB1.out.trans (hb2.mono HB1.out.size))
    clear hat hb2
    go_wp2_with fail
    refine (HFIN.out _ _ HAT.out (HM.out.below HB2.out)).mono ?_
    rintro e w3 ⟨a3, c3, rfl, ho3, hb3⟩
    have HO3 := hid ho3
    have HB3 := hid hb3
    clear ho3 hb3
    go_wp2
    go_ret2
    exact ⟨a3, c3, rfl, own_base HO3.out HB2.out.size, HB2.out.trans (HB3.out.mono HB2.out.size)⟩
  · have hv : outValid p o = false := by simpa using hv
    rw [hv] at HV
    have HRES := hid (show findMov p split o = ([], false) by unfold findMov; rw [hv]; rfl)
    rw [HRES.out]
    clear hv h h' hl hl' HRES
    go_enter Try.func31, Try.ntmps31
    go_wp2_with fail
    refine HV.out.mono ?_
    rintro e w1 ⟨rfl, hb1⟩
    have HB1 := hid hb1
    clear hb1
    go_wp2
    go_ret2
    exact retLB_nil HB1.out
theorem findMov_len (p : Prg) (split : Bool) (o : List Int) : (findMov p split o).1.length ≤ 1048576 := by
  unfold findMov
  split
  · rename_i hv
    have hpv : progValid p = true := by
      unfold outValid at hv
      simp only [Bool.and_eq_true, decide_eq_true_eq] at hv
      exact hv.1.1
    have hsh := (valid_of hpv).toShape
    unfold findRes
    split
    · rename_i π hb
      have h1 := best4_len hsh o _ _ _ (good_start4 p split) hb
      have h2 := left4_le4 (good_start4 p split) hsh
      dsimp only
      omega
    · exact Nat.zero_le _
  · exact Nat.zero_le _
end Go.Proofs.Ytbncmeggnhggkaa
