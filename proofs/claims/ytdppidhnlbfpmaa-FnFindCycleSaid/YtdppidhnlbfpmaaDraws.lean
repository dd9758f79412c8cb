/-
  PROVED HERE: what the Draw functions of relations do: some lists of numbers, in memory of their own. CONDITIONS: as each theorem states.
-/
import Derived.Test.YtdppidhnlbfpmaaDrawOrd
import Derived.Test.YtdppidhnlbfpmaaRelC
namespace Go.Proofs.Ytdppidhnlbfpmaa
open Go.RowKit
set_option linter.unusedVariables false
set_option linter.unusedSimpArgs false

/-- Some list of numbers, in memory of the call's own. -/
def Drawn1 (w : World) (e : Ending) (w' : World) : Prop := ∃ ys : List Int, RetI w ys e w' ∧ ys.length ≤ 17
/-- Two of them. -/
def Drawn2 (w : World) (e : Ending) (w' : World) : Prop := ∃ (xs ys : List Int) (a a' : Option Addr) (c c' : Nat), e = .returned (.tuple #[.slice a xs.length c, .slice a' ys.length c']) ∧ OwI w' w.heap.size a c xs ∧ OwI w' w.heap.size a' c' ys ∧ Below w.heap.size w w' ∧ xs.length ≤ 17 ∧ ys.length ≤ 17
def DrawArgs (w : World) (a : Option Addr) (cap : Nat) (bs : List Int) : Prop := Rd w a (bytes bs) ∧ (∀ x ∈ bs, 0 ≤ x ∧ x ≤ 255) ∧ bs.length ≤ 1048576 ∧ bs.length ≤ cap ∧ cap ≤ 9223372036854775807
theorem DrawArgs.below {w w' : World} {a : Option Addr} {cap : Nat} {bs : List Int} (h : DrawArgs w a cap bs) (hb : Below w.heap.size w w') : DrawArgs w' a cap bs := ⟨h.1.below hb, h.2⟩
theorem DrawArgs.open {w : World} {a : Option Addr} {cap : Nat} {bs : List Int} (h : DrawArgs w a cap bs) :
    Calls Try.prog 63 #[.slice a bs.length cap] w fun e w' => ∃ (bs' : List Int), e = .returned (.pointer (some ⟨w.heap.size, 0, none⟩)) ∧ Rdr w' w.heap.size bs' 0 ∧ Below w.heap.size w w' :=
  open_c w a cap bs h.1 h.2.1 h.2.2.1 h.2.2.2.1 h.2.2.2.2

theorem drawRelValid_c (w : World) (a : Option Addr) (cap : Nat) (bs : List Int) (h : DrawArgs w a cap bs) :
    Calls Try.prog 29 #[.slice a bs.length cap] w (Drawn1 w) := by
  have CO := hid h.open
  obtain ⟨N, hN⟩ : ∃ N, N = bs.length := ⟨_, rfl⟩
  rw [← hN] at CO ⊢
  clear h hN
  go_enter Try.func29, Try.ntmps29
  go_wp2_with fail
  refine CO.out.mono ?_
  rintro e w1 ⟨bs', rfl, hr1, hb1⟩
  have hlt1 := hr1.lt
  go_wp2_with fail
  refine (l2Size_c w1 _ bs' 0 hr1 (by omega)).mono ?_
  rintro e w2 ⟨n, rfl, hn, hr2, hg2⟩
  have hb2 := below_rdr hb1 hg2 (Nat.le_refl _) hb1.size
  go_wp2_with fail
  refine (l2Draw_c w2 _ bs' 1 n hr2 (by omega) (by omega)).mono ?_
  rintro e w3 ⟨ys, a3, c3, p3, rfl, hyl, hown3, hr3, hp3, hg3⟩
  have hb3 := below_rdr hb2 hg3 (Nat.le_refl _) hb2.size
  replace hyl : ys.length ≤ 16 := by omega
  go_wp2_with fail
  refine (l2Mutate_c w3 _ bs' p3 a3 c3 ys hr3 (by omega) (Rd.own hown3) hyl).mono ?_
  rintro e w5 ⟨zs, a5, c5, p5, rfl, hzl, hown5, hr5, hp5, hg5⟩
  have hh := hb3.size
  go_wp2
  go_ret
  exact ⟨zs, ⟨a5, c5, rfl, own_up hown5 hh, below_rdr hb3 hg5 (Nat.le_refl _) hh⟩, hzl⟩

set_option maxHeartbeats 1600000 in
theorem drawUnionRel_c (w : World) (a : Option Addr) (cap : Nat) (bs : List Int) (h : DrawArgs w a cap bs) :
    Calls Try.prog 41 #[.slice a bs.length cap] w (Drawn2 w) := by
  have CO := hid h.open
  obtain ⟨N, hN⟩ : ∃ N, N = bs.length := ⟨_, rfl⟩
  rw [← hN] at CO ⊢
  clear h hN
  go_enter Try.func41, Try.ntmps41
  go_wp2_with fail
  refine CO.out.mono ?_
  rintro e w1 ⟨bs', rfl, hr1, hb1⟩
  have hlt1 := hr1.lt
  go_wp2_with fail
  refine (l2Size_c w1 _ bs' 0 hr1 (by omega)).mono ?_
  rintro e w2 ⟨n, rfl, hn, hr2, hg2⟩
  have hb2 := below_rdr hb1 hg2 (Nat.le_refl _) hb1.size
  go_wp2_with fail
  refine (l2Draw_c w2 _ bs' 1 n hr2 (by omega) (by omega)).mono ?_
  rintro e w3 ⟨ys, a3, c3, p3, rfl, hyl, hown3, hr3, hp3, hg3⟩
  have hb3 := below_rdr hb2 hg3 (Nat.le_refl _) hb2.size
  replace hyl : ys.length ≤ 16 := by omega
  go_wp2_with fail
  refine (l2Mutate_c w3 _ bs' p3 a3 c3 ys hr3 (by omega) (Rd.own hown3) hyl).mono ?_
  rintro e w4 ⟨zs, a4, c4, p4, rfl, hzl, hown4, hr4, hp4, hg4⟩
  have hown4 := own_up hown4 hb3.size
  have hb4 := below_rdr hb3 hg4 (Nat.le_refl _) hb3.size
  clear hown3 hr3 hg3 hb3 hr2 hg2 hb2 hr1 hb1 hg4
  go_wp2_with fail
  refine (pick_c w4 _ bs' p4 12 hr4 (by omega) (by omega)).mono ?_
  rintro e w5 ⟨x, rfl, hx0, hx1, hr5, hg5⟩
  have hown5 := own_rdr hr4 hown4 hg5
  have hb5 := below_rdr hb4 hg5 (Nat.le_refl _) hb4.size
  clear hown4 hr4 hg5 hb4 hx1
  have fin : ∀ m : Nat, m ≤ 13 → Calls Try.prog 65 #[.pointer (some ⟨w.heap.size, 0, none⟩), .int .i64 m] w5 fun e w' => ∃ (ys : List Int) (a : Option Addr) (cap p' : Nat), e = .returned (.slice a ys.length cap) ∧
      Calls Try.prog 64 #[.pointer (some ⟨w.heap.size, 0, none⟩), .slice a ys.length cap] w' fun e w'' => ∃ (us : List Int) (a : Option Addr) (cap : Nat), e = .returned (.slice a us.length cap) ∧ us.length ≤ 17 ∧ OwI w'' w.heap.size a cap us ∧ OwI w'' w.heap.size a4 c4 zs ∧ Below w.heap.size w w'' := by
    intro m hm
    refine (l2Draw_c w5 _ bs' (p4 + 1) m hr5 (by omega) hm).mono ?_
    rintro e w6 ⟨ys, a6, c6, p6, rfl, hyl, hown6, hr6, hp6, hg6⟩
    have hb6 := below_rdr hb5 hg6 (Nat.le_refl _) hb5.size
    have hz6 := own_rdr hr5 hown5 hg6
    refine ⟨ys, a6, c6, p6, rfl, ?_⟩
    refine (l2Mutate_c w6 _ bs' p6 a6 c6 ys hr6 (by omega) (Rd.own hown6) (by omega)).mono ?_
    rintro e w7 ⟨us, a7, c7, p7, rfl, hul, hown7, hr7, hp7, hg7⟩
    exact ⟨us, a7, c7, rfl, hul, own_up hown7 hb6.size, own_rdr hr6 hz6 hg7, below_rdr hb6 hg7 (Nat.le_refl _) hb6.size⟩
  have FIN := hid fin
  clear fin hr5 hb5 hown5
  by_cases hx : x = 0
  · subst hx
    have hn1 : wrap64 ((n : Int) + 1) = ((n + 1 : Nat) : Int) := by rw [IntWalk.wrap64_in ((n : Int) + 1) (by omega)]; omega
    go_wp2_with fail
    refine (FIN.out (n + 1) (by omega)).mono ?_
    rintro e w6 ⟨ys, a6, c6, p6, rfl, hc⟩
    go_wp2_with fail
    refine hc.mono ?_
    rintro e w7 ⟨us, a7, c7, rfl, hul, h7, h4, hb⟩
    go_wp2
    go_ret2
    exact ⟨zs, us, a4, a7, c4, c7, rfl, h4, h7, hb, hzl, hul⟩
  · have d0 : ((x : Int) == 0) = false := by simpa using hx
    go_wp2_with fail
    refine (FIN.out n (by omega)).mono ?_
    rintro e w6 ⟨ys, a6, c6, p6, rfl, hc⟩
    go_wp2_with fail
    refine hc.mono ?_
    rintro e w7 ⟨us, a7, c7, rfl, hul, h7, h4, hb⟩
    go_wp2
    go_ret2
    exact ⟨zs, us, a4, a7, c4, c7, rfl, h4, h7, hb, hzl, hul⟩

theorem l2Order_d (w : World) (a : Option Addr) (cap : Nat) (bs : List Int) (h : DrawArgs w a cap bs) :
    Calls Try.prog 67 #[.slice a bs.length cap] w (Drawn1 w) := l2Order_c w a cap bs h.1 h.2.1 h.2.2.1 h.2.2.2.1 h.2.2.2.2
set_option maxHeartbeats 1600000 in
theorem drawWithinRel_c (w : World) (a : Option Addr) (cap : Nat) (bs : List Int) (h : DrawArgs w a cap bs) :
    Calls Try.prog 39 #[.slice a bs.length cap] w (Drawn2 w) := by
  have CU := hid (drawUnionRel_c w a cap bs h)
  have CO := hid (fun (w1 : World) (hb : Below w.heap.size w w1) => (h.below hb).open)
  obtain ⟨N, hN⟩ : ∃ N, N = bs.length := ⟨_, rfl⟩
  rw [← hN] at CU CO ⊢
  clear h hN
  go_enter Try.func39, Try.ntmps39
  go_wp2_with fail
  refine CU.out.mono ?_
  rintro e w1 ⟨xs, ys, ax, ay, cx, cy, rfl, hx, hy, hb, hxl, hyl⟩
  go_wp2_with fail
  refine (CO.out w1 hb).mono ?_
  rintro e w2 ⟨bs', rfl, hr2, hb2⟩
  have hx2 := own_below hx hb2
  have hy2 := own_below hy hb2
  have hb02 := hb.trans (hb2.mono hb.size)
  have hs1 := hb.size
  clear hx hy hb hb2
  go_wp2_with fail
  refine (pick_c w2 _ bs' 0 2 hr2 (by omega) (by omega)).mono ?_
  rintro e w3 ⟨x, rfl, hx0, hx1, hr3, hg3⟩
  have hx3 := own_rdr hr2 hx2 hg3
  have hy3 := own_rdr hr2 hy2 hg3
  have hb3 := below_rdr hb02 hg3 hs1 hb02.size
  clear hx2 hy2 hr2 hb02 hg3 hx1 hr3
  by_cases hx : x = 0
  · subst hx
    have CF := l2Fit_c w3 ax ay cx cy xs ys (Rd.own hx3) (Rd.own hy3) (by omega) (by omega)
    by_cases hf : fitB xs ys = true
    · rw [hf] at CF
      go_wp2_with fail
      refine CF.mono ?_
      rintro e w4 ⟨rfl, hb4⟩
      have hx4 := own_below hx3 hb4
      have hy4 := own_below hy3 hb4
      have hb04 := hb3.trans (hb4.mono hb3.size)
      clear hx3 hy3 hb3 hb4 CF
      obtain ⟨us, vs, rfl, rfl, hu, hv, hl⟩ := ok_of_fit hf
      try unfold OwI at hx4 hy4
      simp only [length_castI] at hx4 hy4 hxl hyl ⊢
      rw [← hl] at hy4 hyl
      rw [ints_castI] at hx4 hy4
      rw [← hl]
      have CM := l2Meet_c w4 ax ay cx cy us vs (Rd.own hx4) (Rd.own hy4) hu hv hl.symm
      have HL := hid hl
      obtain ⟨n, hn⟩ : ∃ n, n = us.length := ⟨_, rfl⟩
      rw [← hn] at CM hx4 hy4 ⊢
      have HN := hid hn
      clear hl hn hf
      go_wp2_with fail
      refine CM.mono ?_
      rintro e w5 ⟨a5, c5, rfl, hown5, hb5⟩
      have hy5 := own_below hy4 hb5
      have hown5 := own_up hown5 hb04.size
      have hlm : (meetN us vs).length = n := by
        simp [meetN, ← HL.out, HN.out]
      have hb05 := hb04.trans (hb5.mono hb04.size)
      go_wp2
      go_ret2
      refine ⟨castI (meetN us vs), castI vs, a5, ay, c5, cy, ?_, ?_, ?_, hb05, ?_, ?_⟩
      · simp only [length_castI]
        rw [← HL.out, ← HN.out, hlm]
        rfl
      · try unfold OwI
        rw [length_castI, ints_castI]
        exact hown5
      · try unfold OwI
        rw [length_castI, ints_castI, ← HL.out, ← HN.out]
        exact hy5
      · rw [length_castI, hlm, HN.out]; omega
      · rw [length_castI, ← HL.out]; omega
    · have hf : fitB xs ys = false := by simpa using hf
      rw [hf] at CF
      go_wp2_with fail
      refine CF.mono ?_
      rintro e w4 ⟨rfl, hb4⟩
      go_wp2
      go_ret2
      exact ⟨xs, ys, ax, ay, cx, cy, rfl, own_below hx3 hb4, own_below hy3 hb4, hb3.trans (hb4.mono hb3.size), hxl, hyl⟩
  · have d0 : ((x : Int) == 0) = false := by simpa using hx
    go_wp2
    go_ret2
    exact ⟨xs, ys, ax, ay, cx, cy, rfl, hx3, hy3, hb3, hxl, hyl⟩


theorem drawInverseRel_c (w : World) (a : Option Addr) (cap : Nat) (bs : List Int) (h : DrawArgs w a cap bs) :
    Calls Try.prog 37 #[.slice a bs.length cap] w (Drawn1 w) := by
  have C := hid (drawRelValid_c w a cap bs h)
  obtain ⟨N, hN⟩ : ∃ N, N = bs.length := ⟨_, rfl⟩
  rw [← hN] at C ⊢
  clear h hN
  go_enter Try.func37, Try.ntmps37
  go_wp2_with fail
  refine C.out.mono ?_
  rintro e w1 ⟨zs, ⟨a5, c5, rfl, h5, hb5⟩, hzl⟩
  go_wp2
  go_ret
  exact ⟨zs, ⟨a5, c5, rfl, h5, hb5⟩, hzl⟩

theorem drawClosureRel_c (w : World) (a : Option Addr) (cap : Nat) (bs : List Int) (h : DrawArgs w a cap bs) :
    Calls Try.prog 25 #[.slice a bs.length cap] w (Drawn1 w) := by
  have C := hid (drawRelValid_c w a cap bs h)
  obtain ⟨N, hN⟩ : ∃ N, N = bs.length := ⟨_, rfl⟩
  rw [← hN] at C ⊢
  clear h hN
  go_enter Try.func25, Try.ntmps25
  go_wp2_with fail
  refine C.out.mono ?_
  rintro e w1 ⟨zs, ⟨a5, c5, rfl, h5, hb5⟩, hzl⟩
  go_wp2
  go_ret
  exact ⟨zs, ⟨a5, c5, rfl, h5, hb5⟩, hzl⟩


theorem drawAcyclicRel_c (w : World) (a : Option Addr) (cap : Nat) (bs : List Int) (h : DrawArgs w a cap bs) :
    Calls Try.prog 30 #[.slice a bs.length cap] w (Drawn1 w) := by
  have C := hid (l2Order_d w a cap bs h)
  obtain ⟨N, hN⟩ : ∃ N, N = bs.length := ⟨_, rfl⟩
  rw [← hN] at C ⊢
  clear h hN
  go_enter Try.func30, Try.ntmps30
  go_wp2_with fail
  refine C.out.mono ?_
  rintro e w1 ⟨zs, ⟨a5, c5, rfl, h5, hb5⟩, hzl⟩
  go_wp2
  go_ret
  exact ⟨zs, ⟨a5, c5, rfl, h5, hb5⟩, hzl⟩

theorem drawFindCycle_c (w : World) (a : Option Addr) (cap : Nat) (bs : List Int) (h : DrawArgs w a cap bs) :
    Calls Try.prog 43 #[.slice a bs.length cap] w (Drawn1 w) := by
  have C := hid (l2Order_d w a cap bs h)
  obtain ⟨N, hN⟩ : ∃ N, N = bs.length := ⟨_, rfl⟩
  rw [← hN] at C ⊢
  clear h hN
  go_enter Try.func43, Try.ntmps43
  go_wp2_with fail
  refine C.out.mono ?_
  rintro e w1 ⟨zs, ⟨a5, c5, rfl, h5, hb5⟩, hzl⟩
  go_wp2
  go_ret
  exact ⟨zs, ⟨a5, c5, rfl, h5, hb5⟩, hzl⟩

theorem drawMeetRel_c (w : World) (a : Option Addr) (cap : Nat) (bs : List Int) (h : DrawArgs w a cap bs) :
    Calls Try.prog 19 #[.slice a bs.length cap] w (Drawn2 w) := by
  have C := hid (drawUnionRel_c w a cap bs h)
  obtain ⟨N, hN⟩ : ∃ N, N = bs.length := ⟨_, rfl⟩
  rw [← hN] at C ⊢
  clear h hN
  go_enter Try.func19, Try.ntmps19
  go_wp2_with fail
  refine C.out.mono ?_
  rintro e w1 ⟨xs, ys, ax, ay, cx, cy, rfl, hx, hy, hb, hxl, hyl⟩
  go_wp2
  go_ret2
  exact ⟨xs, ys, ax, ay, cx, cy, rfl, hx, hy, hb, hxl, hyl⟩

theorem drawMinusRel_c (w : World) (a : Option Addr) (cap : Nat) (bs : List Int) (h : DrawArgs w a cap bs) :
    Calls Try.prog 33 #[.slice a bs.length cap] w (Drawn2 w) := by
  have C := hid (drawUnionRel_c w a cap bs h)
  obtain ⟨N, hN⟩ : ∃ N, N = bs.length := ⟨_, rfl⟩
  rw [← hN] at C ⊢
  clear h hN
  go_enter Try.func33, Try.ntmps33
  go_wp2_with fail
  refine C.out.mono ?_
  rintro e w1 ⟨xs, ys, ax, ay, cx, cy, rfl, hx, hy, hb, hxl, hyl⟩
  go_wp2
  go_ret2
  exact ⟨xs, ys, ax, ay, cx, cy, rfl, hx, hy, hb, hxl, hyl⟩

theorem drawComposeRel_c (w : World) (a : Option Addr) (cap : Nat) (bs : List Int) (h : DrawArgs w a cap bs) :
    Calls Try.prog 14 #[.slice a bs.length cap] w (Drawn2 w) := by
  have C := hid (drawUnionRel_c w a cap bs h)
  obtain ⟨N, hN⟩ : ∃ N, N = bs.length := ⟨_, rfl⟩
  rw [← hN] at C ⊢
  clear h hN
  go_enter Try.func14, Try.ntmps14
  go_wp2_with fail
  refine C.out.mono ?_
  rintro e w1 ⟨xs, ys, ax, ay, cx, cy, rfl, hx, hy, hb, hxl, hyl⟩
  go_wp2
  go_ret2
  exact ⟨xs, ys, ax, ay, cx, cy, rfl, hx, hy, hb, hxl, hyl⟩
end Go.Proofs.Ytdppidhnlbfpmaa
