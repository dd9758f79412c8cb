/-
  PROVED HERE: what spec.DrawProgramValid, DrawCountOps, DrawProgramSame and the draws that call them do. CONDITIONS: as each theorem states.
-/
import Derived.Test.YtmeoclkngjboiaaDoorMut
namespace Go.Proofs.YtmeoclkngjboiaaDoor
open Go.RowKit
set_option linter.unusedVariables false
set_option linter.unusedSimpArgs false

/-- A program that has been drawn. -/
def DrawnP (w w' : World) (e : Ending) : Prop :=
  ∃ (p : Prg) (a : Option Addr) (cap : Nat), e = .returned (.slice a p.length cap) ∧ p.length ≤ cap ∧ RdP w' a p ∧ sizeP p ≤ 100 ∧ Below w.heap.size w w'
theorem DrawnP.of {w w' : World} {p : Prg} {a : Option Addr} {cap n : Nat} (hn : p.length = n) (h1 : p.length ≤ cap) (h2 : RdP w' a p) (h3 : sizeP p ≤ 100) (h4 : Below w.heap.size w w') : DrawnP w w' (.returned (.slice a n cap)) := by
  subst hn
  exact ⟨p, a, cap, rfl, h1, h2, h3, h4⟩
/-- Three empty threads that have just been laid. -/
theorem OwP.three (w : World) (base : Nat) (hb : base ≤ w.heap.size) : OwP ((((w.alloc (.cells #[] 46)).alloc (.cells #[] 46)).alloc (.cells #[] 46)).alloc (.cells #[.slice (some ⟨w.heap.size, 0, none⟩) 0 0, .slice (some ⟨w.heap.size + 1, 0, none⟩) 0 0, .slice (some ⟨w.heap.size + 1 + 1, 0, none⟩) 0 0] 44)) base (w.heap.size + 4) (some ⟨w.heap.size + 1 + 1 + 1, 0, none⟩) 3 [[], [], []] := by
  have o1 := own_lit0 w base 46 4 hb
  have o2 := own_lit0 (w.alloc (.cells #[] 46)) base 46 4 (by simp; omega)
  have o3 := own_lit0 ((w.alloc (.cells #[] 46)).alloc (.cells #[] 46)) base 46 4 (by simp; omega)
  have e1 : (w.alloc (.cells #[] 46)).heap.size = w.heap.size + 1 := by simp
  have e2 : ((w.alloc (.cells #[] 46)).alloc (.cells #[] 46)).heap.size = w.heap.size + 1 + 1 := by simp
  have e3 : (((w.alloc (.cells #[] 46)).alloc (.cells #[] 46)).alloc (.cells #[] 46)).heap.size = w.heap.size + 1 + 1 + 1 := by simp
  rw [e1] at o2
  rw [e2] at o3
  refine ⟨[(some ⟨w.heap.size, 0, none⟩, 0), (some ⟨w.heap.size + 1, 0, none⟩, 0), (some ⟨w.heap.size + 1 + 1, 0, none⟩, 0)], rfl, ?_, ?_, ?_, ?_, ?_⟩
  · refine ⟨rfl, .inr ⟨w.heap.size + 1 + 1 + 1, 3, _, rfl, by omega, (by rw [← e3]; exact heap_alloc_new _ _), by decide, by decide, rfl, rfl⟩⟩
  · intro k r xs hr hx
    match k, hr, hx with
    | 0, hr, hx => simp only [List.getElem?_cons_zero, Option.some.injEq] at hr hx; subst hr hx; exact ((o1.alloc _).alloc _).alloc _
    | 1, hr, hx => simp only [List.getElem?_cons_zero, List.getElem?_cons_succ, Option.some.injEq] at hr hx; subst hr hx; exact (o2.alloc _).alloc _
    | 2, hr, hx => simp only [List.getElem?_cons_zero, List.getElem?_cons_succ, Option.some.injEq] at hr hx; subst hr hx; exact o3.alloc _
    | k + 3, hr, hx => simp at hr
  · intro i k r s b hr hs hbr hbs
    match i, k, hr, hs with
    | 0, 0, _, _ => rfl
    | 1, 1, _, _ => rfl
    | 2, 2, _, _ => rfl
    | 0, 1, hr, hs => simp at hr hs; subst hr hs; simp [blk] at hbr hbs; omega
    | 0, 2, hr, hs => simp at hr hs; subst hr hs; simp [blk] at hbr hbs; omega
    | 1, 0, hr, hs => simp at hr hs; subst hr hs; simp [blk] at hbr hbs; omega
    | 1, 2, hr, hs => simp at hr hs; subst hr hs; simp [blk] at hbr hbs; omega
    | 2, 0, hr, hs => simp at hr hs; subst hr hs; simp [blk] at hbr hbs; omega
    | 2, 1, hr, hs => simp at hr hs; subst hr hs; simp [blk] at hbr hbs; omega
    | i + 3, _, hr, _ => simp at hr
    | _, k + 3, _, hs => simp at hs
  · intro k r b hr hbr
    match k, hr with
    | 0, hr => simp at hr; subst hr; simp [blk] at hbr; omega
    | 1, hr => simp at hr; subst hr; simp [blk] at hbr; omega
    | 2, hr => simp at hr; subst hr; simp [blk] at hbr; omega
    | k + 3, hr => simp at hr
  · intro b hb
    simp [blk] at hb
    omega

set_option maxHeartbeats 1600000 in
theorem drawPV_c (w : World) (a : Option Addr) (cap : Nat) (bs : List Int) (h : Rd w a (u8s bs)) (hwf : ∀ x ∈ bs, 0 ≤ x ∧ x ≤ 255) (hl : bs.length ≤ 1048576) (hcap : bs.length ≤ cap) (hcm : cap ≤ 9223372036854775807) :
    Calls Tryd.prog 35 #[.slice a bs.length cap] w fun e w' => DrawnP w w' e := by
  have HOP := hid (open_c w a cap bs h hwf hl hcap hcm)
  have HPK := hid (fun w (g q : Nat) (bs : List Int) (n : Int) (h : Rdr w g bs q) (hq : q ≤ 1000000) (hn : n ≤ 1000000000) => pick_c w g bs q n h hq hn)
  have HDR := hid (fun w (g q : Nat) (bs : List Int) (h : Rdr w g bs q) (hq : q ≤ 800000) => l1Draw_c w g bs q h hq)
  have HMU := hid (fun w (g q : Nat) (bs : List Int) a cap P (h : Rdr w g bs q) (hq : q ≤ 800000) hP hs => l1Mutate_c w g bs q a cap P h hq hP hs)
  clear h hwf
  go_enter Tryd.func35, Tryd.ntmps35
  go_wp2_with fail
  refine HOP.out.mono ?_
  rintro e w1 ⟨bs', rfl, hr1, hb1⟩
  have HR1 := hid hr1
  have HB1 := hid hb1
  have hlt1 := hr1.lt
  clear hr1 hb1
  go_wp2_with fail
  refine (HPK.out _ _ _ _ _ HR1.out (by omega) (by omega)).mono ?_
  rintro e w2 ⟨x, rfl, hx0, hx1, hr2, hg2⟩
  have HR2 := hid hr2
  have HB2 := hid (below_grown HB1.out hg2 (Nat.le_refl _) (by omega))
  have hs2 := hg2.size
  clear hr2 hg2 hx1
  by_cases ex : x = 0
  · subst ex
    have HP2 := hid (OwP.three w2 w.heap.size (by omega))
    have HB3 := hid ((((HB2.out.alloc HB2.out.size (.cells #[] 46)).alloc (by simp; omega) (.cells #[] 46)).alloc (by simp; omega) (.cells #[] 46)).alloc (by simp; omega) (.cells #[.slice (some ⟨w2.heap.size, 0, none⟩) 0 0, .slice (some ⟨w2.heap.size + 1, 0, none⟩) 0 0, .slice (some ⟨w2.heap.size + 1 + 1, 0, none⟩) 0 0] 44))
    obtain ⟨G, hG⟩ : ∃ G, G = w2.heap.size + 1 + 1 + 1 := ⟨_, rfl⟩
    go_wp2_with fail
    rw [← hG]
    rw [← hG] at HP2
    have hGb : w.heap.size ≤ G := by omega
    have HGG := hid hG
    clear hG
    go_loopw [5] (fun i wr => ∃ (k : Nat) (Q : Prg), k ≤ 9 ∧ i = .int .i64 k ∧ Hid (Q.length = 3) ∧ Hid (sizeP Q = 3 + k) ∧ Hid (OwP wr w.heap.size wr.heap.size (some ⟨G, 0, none⟩) 3 Q) ∧ Hid (Below w.heap.size w wr)) (fun i _ => 9 - (intOf i).toNat)
    case atStart => exact ⟨0, [[], [], []], by omega, rfl, hid rfl, hid rfl, hid (by have := HP2.out; simpa using this), HB3⟩
    case round =>
      obtain ⟨k, Q, hk, rfl, HQN, HSZ, HP, HB⟩ := hrel
      obtain ⟨wo, rfl⟩ : ∃ wo : World, wo = wr := ⟨_, rfl⟩
      have hso := HB.out.size
      by_cases hk9 : k < 9
      · have hk9' : (k : Int) < 9 := by omega
        obtain ⟨J, hJe, hJ⟩ : ∃ J : Nat, (k : Int) % 3 = (J : Int) ∧ J < 3 := ⟨k % 3, by omega, by omega⟩
        obtain ⟨xs, hxs⟩ : ∃ xs, Q[J]? = some xs := ⟨_, List.getElem?_eq_getElem (by rw [HQN.out]; exact hJ)⟩
        obtain ⟨G', r, rc, hG', _, hGlt, hcell, hrow, hrb, hput⟩ := HP.out.row hxs
        obtain rfl : G = G' := by simpa using hG'
        obtain ⟨m, hm⟩ : ∃ m, m = xs.length := ⟨_, rfl⟩
        have HM := hid hm
        have HX := hid hxs
        have hml : m ≤ 20 := by have := sizeP_row hxs; rw [HSZ.out, ← hm] at this; omega
        have HROW := hid (show wo.ownsRow w.heap.size 46 4 (.slice r m rc) m (insV xs) by rw [hm]; exact hrow)
        rw [← hm] at hcell
        have HPUT := hid hput
        have hi1 : (J : Int) < 3 := by omega
        clear hm hrow hput hrb hG' hxs
        go_wp2_with (at_builtin; refine wpList_append_ins rfl (.tmp 26) (.tmp 28) rfl w.heap.size (.slice r m rc) m xs rfl (HROW.out.alloc _) ⟨wo.heap.size, 0, none⟩ ⟨5, 0, 0, 1⟩ rfl (ins_laid wo ⟨5, 0, 0, 1⟩ _) (by omega) (by simp; omega) ?_)
        intro v4 w4 hown4 hgrow4 hat4
        have hE : (xs ++ [(⟨5, 0, 0, 1⟩ : Ins)]).length = m + 1 := by rw [List.length_append, ← HM.out]; rfl
        rw [ownBlock_slice] at hgrow4 hat4
        have hp4 := HPUT.out (fun k => blk r = some k) w4 v4 (xs ++ [⟨5, 0, 0, 1⟩]) ((Keeps.of_below ((Below.refl _ _).alloc (Nat.le_refl _) _)).trans (Keeps.of_grown hgrow4 (fun k hk => hk))) (fun b _ _ h => h) (by rw [hE]; exact hown4) (by
          rcases hat4 with h | h
          · exact .inl h
          · refine .inr (fun b hb => ?_)
            rw [h] at hb
            simp at hb
            omega)
        obtain ⟨hc4, hf4, hP4⟩ := hp4
        rw [← HM.out] at hc4
        obtain ⟨a4, c4, rfl, _⟩ := own_shape hown4
        have HP5 := hid (show OwP (w4.setCell ⟨G, J, none⟩ (.slice a4 (m + 1) c4)) w.heap.size (w4.setCell ⟨G, J, none⟩ (.slice a4 (m + 1) c4)).heap.size (some ⟨G, 0, none⟩) 3 (Q.set (J) (xs ++ [⟨5, 0, 0, 1⟩])) by simpa [World.setCell] using hP4)
        have HB5 := hid (((HB.out.alloc HB.out.size (.cells #[.int .i64 5, .int .i64 0, .int .i64 0, .int .i64 1] 46)).grown hgrow4 (by simp; omega) (fun y hy => (own_blk HROW.out y hy).1)).setCell (p := ⟨G, J, none⟩) hGb (.slice a4 (m + 1) c4))
        have HL5 := hid (show (Q.set (J) (xs ++ [⟨5, 0, 0, 1⟩])).length = 3 by rw [List.length_set]; exact HQN.out)
        have HZ5 := hid (show sizeP (Q.set (J) (xs ++ [⟨5, 0, 0, 1⟩])) = 3 + (k + 1) by rw [sizeP_set _ HX.out, HSZ.out]; omega)
        clear hown4 hgrow4 hat4 hP4 hE
        go_wp2_with fail
        go_roundw
        case rel => exact ⟨k + 1, _, by omega, by go_num, HL5, HZ5, HP5, HB5⟩
        case measure => simp [intOf]; omega
      · have hk9' : decide ((k : Int) < 9) = false := by simp; omega
        have hk9'' : decide (k < 9) = false := by simp; omega
        clear hk9
        go_wp2_with fail
        go_ret
        exact DrawnP.of HQN.out (by rw [HQN.out]; omega) HP.out.rd (by rw [HSZ.out]; omega) HB.out
  · have ex' : (x == 0) = false := by simpa using ex
    clear ex
    go_wp2_with fail
    refine (HDR.out _ _ _ _ HR2.out (by omega)).mono ?_
    rintro e w3 ⟨P, a3, c3, q3, rfl, hc3, ha3, hv3, hr3, hq3, hg3⟩
    have HR3 := hid hr3
    have HA3 := hid ha3
    have HZ3 := hid (shape_size (valid_of hv3).toShape)
    have HB3 := hid (below_grown HB2.out hg3 (Nat.le_refl _) (by omega))
    have hs3 := hg3.size
    clear hr3 ha3 hg3 hv3
    go_wp2_with fail
    refine (HMU.out _ _ _ _ _ _ _ HR3.out (by omega) HA3.out (by have := HZ3.out; omega)).mono ?_
    rintro e w4 ⟨P4, a4, c4, q4, rfl, hc4, ha4, hz4, hr4, hq4, hg4⟩
    have HA4 := hid ha4
    have HZ4 := hid hz4
    have HB4 := hid (below_grown HB3.out hg4 (Nat.le_refl _) (by omega))
    clear hr4 ha4 hz4 hg4
    go_wp2_with fail
    go_ret
    exact DrawnP.of rfl hc4 HA4.out.rd (by have := HZ4.out; have := HZ3.out; omega) HB4.out
theorem drawFormatProgram_c (w : World) (a : Option Addr) (cap : Nat) (bs : List Int) (h : Rd w a (u8s bs)) (hwf : ∀ x ∈ bs, 0 ≤ x ∧ x ≤ 255) (hl : bs.length ≤ 1048576) (hcap : bs.length ≤ cap) (hcm : cap ≤ 9223372036854775807) :
    Calls Tryd.prog 12 #[.slice a bs.length cap] w fun e w' => DrawnP w w' e := by
  have HD := hid (drawPV_c w a cap bs h hwf hl hcap hcm)
  clear h hwf
  go_enter Tryd.func12, Tryd.ntmps12
  go_wp2_with fail
  refine HD.out.mono ?_
  rintro e w1 ⟨p, a1, c1, rfl, h1, h2, h3, h4⟩
  have HR := hid h2
  have HB := hid h4
  clear h2 h4
  go_wp2_with fail
  go_ret
  exact DrawnP.of rfl h1 HR.out h3 HB.out
end Go.Proofs.YtmeoclkngjboiaaDoor
