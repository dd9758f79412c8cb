/-
  PROVED HERE: what spec.l1Draw does: it draws a valid program. CONDITIONS: as each theorem states.
-/
import Derived.Test.YthlmfjoiicnomaaAvp
import Derived.Test.YthlmfjoiicnomaaFac
import Derived.Test.YthlmfjoiicnomaaPps
namespace Go.Proofs.Ythlmfjoiicnomaa
open Go.RowKit
set_option linter.unusedVariables false
set_option linter.unusedSimpArgs false

theorem AvP.one (w : World) (g : Nat) (x : Ins) (hg : g < w.heap.size) : AvP ((w.alloc (.cells #[.int .i64 x.op, .int .i64 x.loc, .int .i64 x.reg, .int .i64 x.val] 70)).alloc (.cells #[.slice (some ⟨w.heap.size, 0, none⟩) 1 1] 30)) g (some ⟨w.heap.size + 1, 0, none⟩) [[x]] := by
  refine ⟨[(some ⟨w.heap.size, 0, none⟩, 1)], rfl, .inr ⟨w.heap.size + 1, 0, rfl, by simp, ?_⟩, fun b hb => by simp [blk] at hb; omega, ?_⟩
  · intro j u hj
    match j, hj with
    | 0, hj =>
      simp [rowsV] at hj
      subst hj
      simp
    | j + 1, hj => simp [rowsV] at hj
  · intro k r xs hr hx
    match k, hr, hx with
    | 0, hr, hx =>
      simp only [List.getElem?_cons_zero, Option.some.injEq] at hr hx
      subst hr hx
      refine ⟨.inr ⟨w.heap.size, 0, rfl, by simp; omega, ?_⟩, Nat.le_refl _, fun b hb => by simp [blk] at hb; omega⟩
      intro j u hj
      have := ins_laid w x 70 j u (by simpa [insV] using hj)
      rw [Addr.add_lit] at this
      exact (((Below.refl (w.heap.size + 1) (w.alloc (.cells #[.int .i64 x.op, .int .i64 x.loc, .int .i64 x.reg, .int .i64 x.val] 70))).alloc (by simp) _).cell (p := ⟨w.heap.size, 0 + j, none⟩) (by show w.heap.size < w.heap.size + 1; omega)).trans this
    | k + 1, hr, hx => simp at hr
theorem parRes_valid (s : ByteArray) (h : (parRes s).2 = true) : progValid (parRes s).1 = true := by
  unfold parRes at h ⊢
  split at h
  · rename_i hc
    rw [if_pos hc]
    exact hc.1
  · cases h
theorem numLitAt (w : World) (H : Nat) (hH : w.heap.size = H) (g : Nat) (bs : List Int) (p : Nat) (xs : List Int) (h : Rdr w g bs p) (hp : p ≤ 1000000) (h0 : 0 < xs.length) (hl : xs.length ≤ 1000) :
    Calls Try.prog 60 #[.pointer (some ⟨g, 0, none⟩), .slice (some ⟨H, 0, none⟩) xs.length xs.length] (w.alloc (.cells (ints xs).toArray 3)) fun e w' => ∃ x : Int, e = .returned (.int .i64 x) ∧ x ∈ xs ∧ Rdr w' g bs (p + 1) ∧ w.grownBy w' (some g) := by
  subst hH
  exact numLit w g bs p xs h hp h0 hl
theorem sizeP_push {p : Prg} {xs : List Ins} : sizeP (p ++ [xs]) = sizeP p + 1 + xs.length := by
  unfold sizeP
  simp
  omega
/-- A drawn valid program. -/
def DrawnV (w w' : World) (g : Nat) (bs : List Int) (q0 : Nat) (e : Ending) : Prop :=
  ∃ (p : Prg) (a : Option Addr) (cap q : Nat), e = .returned (.slice a p.length cap) ∧ p.length ≤ cap ∧ AvP w' g a p ∧ progValid p = true ∧ Rdr w' g bs q ∧ q ≤ q0 ∧ w.grownBy w' (some g)

set_option maxHeartbeats 3200000 in
theorem l1Draw_c (w : World) (g : Nat) (bs : List Int) (p : Nat) (h : Rdr w g bs p) (hp : p ≤ 800000) :
    Calls Try.prog 31 #[.pointer (some ⟨g, 0, none⟩)] w fun e w' => DrawnV w w' g bs (p + 100) e := by
  have hglt := h.lt
  have HPK := hid (fun w (q : Nat) (n : Int) (h : Rdr w g bs q) (hq : q ≤ 1000000) (hn : n ≤ 1000000000) => pick_c w g bs q n h hq hn)
  have HIN := hid (fun w (q : Nat) (h : Rdr w g bs q) (hq : q ≤ 900000) => l1Instr_c w g bs q h hq)
  have HRD := hid h
  have HTE := hid (l1Tests_c w)
  clear h
  go_enter Try.func31, Try.ntmps31
  go_wp2_with fail
  refine HTE.out.mono ?_
  rintro e w1 ⟨rfl, ht1, hb1⟩
  have HT1 := hid ht1
  have HR1 := hid (HRD.out.below hb1)
  have HG1 := hid (grown_below hb1 (some g))
  have hs1 := hb1.size
  clear ht1 hb1
  go_wp2_with fail
  refine (HPK.out _ _ _ HR1.out (by omega) (by omega)).mono ?_
  rintro e w2 ⟨x, rfl, hx0, hx1, hr2, hg2⟩
  have HR2 := hid hr2
  have HG2 := hid (grown_trans HG1.out hg2 (fun k hk => .inl hk.symm))
  have HT2 := hid (HT1.out.kept hg2 (by omega))
  have hs2 := hg2.size
  clear hr2 hg2 hx1
  by_cases hx : 0 < x
  · go_wp2_with fail
    refine (HPK.out _ _ _ HR2.out (by omega) (by omega)).mono ?_
    rintro e w3 ⟨i, rfl, hi0, hi1, hr3, hg3⟩
    have HR3 := hid hr3
    have HG3 := hid (grown_trans HG2.out hg3 (fun k hk => .inl hk.symm))
    have HT3 := hid (HT2.out.kept hg3 (by omega))
    have hs3 := hg3.size
    clear hr3 hg3
    obtain ⟨j, rfl⟩ : ∃ j : Nat, i = j := ⟨i.toNat, by omega⟩
    have hj : j < 21 := by omega
    have hj' : (j : Int) < 21 := by omega
    obtain ⟨s, hsz, hc⟩ := HT3.out.2 j hj
    have HPP := hid (fun w => ppS_c w s (by omega))
    have HVAL := hid (parRes_valid s)
    obtain ⟨R, hR⟩ : ∃ R, R = parRes s := ⟨_, rfl⟩
    unfold RetPB at HPP
    rw [← hR] at HPP HVAL
    obtain ⟨P, B⟩ := R
    clear hR hi1
    go_wp2_with fail
    refine (HPP.out _).mono ?_
    rintro e w4 ⟨a4, c4, rfl, hp4, hb4⟩
    have HR4 := hid (HR3.out.below hb4)
    have HG4 := hid (grown_trans HG3.out (grown_below hb4 (some g)) (fun k hk => .inl hk.symm))
    have hs4 := hb4.size
    have HP4 := hid hp4
    clear hp4 hb4
    cases B
    · go_wp2_with fail
      have HRa := hid (rdr_alloc HR4.out (.cells #[] 30))
      have HGa := hid (grown_alloc HG4.out (.cells #[] 30))
      have HPa := hid (OwP.nil w4 w.heap.size 30 (by omega) rfl)
      refine (numLitAt (w4.alloc (.cells #[] 30)) (w4.heap.size + 1) (by simp) g bs _ [2, 3, 1] HRa.out (by omega) (by decide) (by decide)).mono ?_
      rintro e w5 ⟨x5, rfl, hx5, hr5, hg5⟩
      have HR5 := hid hr5
      have HG5 := hid (grown_trans HGa.out hg5 (fun k hk => .inl hk.symm))
      have hs5 : w4.heap.size + 1 ≤ w5.heap.size := by have := hg5.size; simp at this; omega
      have HP5 := hid ((HPa.out.kept_g hg5 hglt).up hs5)
      obtain ⟨n5, rfl, hn5⟩ : ∃ n5 : Nat, x5 = n5 ∧ n5 ≤ 3 := by
        simp only [List.mem_cons, List.not_mem_nil, or_false] at hx5
        rcases hx5 with rfl | rfl | rfl
        · exact ⟨2, rfl, by omega⟩
        · exact ⟨3, rfl, by omega⟩
        · exact ⟨1, rfl, by omega⟩
      clear hr5 hg5 hx5 HRa HGa HPa
      go_wp2_with fail
      go_loopw [6, 7] (fun v i wr => ∃ (k q c : Nat) (b : Option Addr) (Q : Prg), i = .int .i64 k ∧ Hid (Q.length + k ≤ 3) ∧ Hid (sizeP Q ≤ 4 * Q.length) ∧ q + 20 * k ≤ p + 80 ∧ v = .slice b Q.length c ∧ Hid (OwP wr w.heap.size wr.heap.size b c Q) ∧ Hid (Rdr wr g bs q) ∧ Hid (w.grownBy wr (some g))) (fun _ i _ => (intOf i).toNat)
      case atStart => exact ⟨n5, _, _, _, [], rfl, hid (by simp; omega), hid (by simp [sizeP]), by omega, rfl, HP5, HR5, HG5⟩
      case round =>
        obtain ⟨k, q, c, b, Q, rfl, HQK, HSZ, hq, rfl, HP, HR, HG⟩ := hrel
        obtain ⟨wo, rfl⟩ : ∃ wo : World, wo = wr := ⟨_, rfl⟩
        have hso := HG.out.size
        obtain ⟨n, hn⟩ : ∃ n, n = Q.length := ⟨_, rfl⟩
        have HN := hid hn
        have hnk : n + k ≤ 3 := by rw [hn]; exact HQK.out
        have hsz : sizeP Q ≤ 4 * n := by rw [hn]; exact HSZ.out
        rw [← hn]
        clear hn
        by_cases hk : 0 < k
        · have HOa := hid (own_lit0 wo w.heap.size 70 4 (by omega))
          have HPb := hid (HP.out.below ((Below.refl _ _).alloc (Nat.le_refl _) (.cells #[] 70)))
          have HRb := hid (rdr_alloc HR.out (.cells #[] 70))
          have HGb := hid (grown_alloc HG.out (.cells #[] 70))
          have hk' : (0 : Int) < (k : Int) := by omega
          go_wp2_with fail
          refine (numLitAt (wo.alloc (.cells #[] 70)) (wo.heap.size + 1) (by simp) g bs _ [2, 1, 3, 2, 0] HRb.out (by omega) (by decide) (by decide)).mono ?_
          rintro e w6 ⟨x6, rfl, hx6, hr6, hg6⟩
          have HR6 := hid hr6
          have HG6 := hid (grown_trans HGb.out hg6 (fun k hk => .inl hk.symm))
          have hs6 : wo.heap.size + 1 ≤ w6.heap.size := by have := hg6.size; simp at this; omega
          have HP6 := hid (HPb.out.kept_g hg6 hglt)
          have HO6 := hid (own_kept_g HOa.out hg6 hglt)
          obtain ⟨n6, rfl, hn6⟩ : ∃ n6 : Nat, x6 = n6 ∧ n6 ≤ 3 := by
            simp only [List.mem_cons, List.not_mem_nil, or_false] at hx6
            rcases hx6 with rfl | rfl | rfl | rfl | rfl
            · exact ⟨2, rfl, by omega⟩
            · exact ⟨1, rfl, by omega⟩
            · exact ⟨3, rfl, by omega⟩
            · exact ⟨2, rfl, by omega⟩
            · exact ⟨0, rfl, by omega⟩
          clear hr6 hg6 hx6 HOa HPb HRb HGb
          go_wp2_with fail
          go_loopw [8, 9] (fun v i wr => ∃ (j q c0 : Nat) (a0 : Option Addr) (xs : List Ins), i = .int .i64 j ∧ Hid (xs.length + j ≤ 3) ∧ q + 5 * j + 20 * k ≤ p + 97 ∧ v = .slice a0 xs.length c0 ∧ Hid (OwX wr w.heap.size a0 c0 xs) ∧ Hid (∀ y, blk a0 = some y → wo.heap.size ≤ y) ∧ Hid (OwP wr w.heap.size wo.heap.size b c Q) ∧ Hid (wo.heap.size ≤ wr.heap.size) ∧ Hid (Rdr wr g bs q) ∧ Hid (w.grownBy wr (some g))) (fun _ i _ => (intOf i).toNat)
          case atStart => exact ⟨n6, _, _, _, [], rfl, hid (by simp; omega), by omega, rfl, HO6, hid (fun y hy => by simp [blk] at hy; omega), HP6, hid (by omega), HR6, HG6⟩
          case round =>
            obtain ⟨j, q2, c0, a0, xs, rfl, HXJ, hq2, rfl, HL, HLT, HPi, HSi, HRi, HGi⟩ := hrel
            obtain ⟨wi, rfl⟩ : ∃ wi : World, wi = wr := ⟨_, rfl⟩
            have hsi := HGi.out.size
            obtain ⟨m, hm⟩ : ∃ m, m = xs.length := ⟨_, rfl⟩
            have HM := hid hm
            have hmj : m + j ≤ 3 := by rw [hm]; exact HXJ.out
            have HL' := hid (show wi.ownsRow w.heap.size 70 4 (.slice a0 m c0) m (insV xs) by rw [hm]; exact HL.out)
            rw [← hm]
            clear hm HL
            have HL := HL'
            clear HL'
            by_cases hj : 0 < j
            · have hj' : (0 : Int) < (j : Int) := by omega
              go_wp2_with fail
              refine (HIN.out _ _ HRi.out (by omega)).mono ?_
              rintro e w7 ⟨y, q3, rfl, _, hr7, hq3, hg7⟩
              have HR7 := hid (rdr_alloc hr7 (.cells #[.int .i64 y.op, .int .i64 y.loc, .int .i64 y.reg, .int .i64 y.val] 70))
              have HG7 := hid (grown_alloc (grown_trans HGi.out hg7 (fun k hk => .inl hk.symm)) (.cells #[.int .i64 y.op, .int .i64 y.loc, .int .i64 y.reg, .int .i64 y.val] 70))
              have HL7 := hid ((own_kept_g HL.out hg7 hglt).alloc (.cells #[.int .i64 y.op, .int .i64 y.loc, .int .i64 y.reg, .int .i64 y.val] 70))
              have HP7 := hid ((HPi.out.kept_g hg7 hglt).below ((Below.refl _ _).alloc (Nat.le_refl _) (.cells #[.int .i64 y.op, .int .i64 y.loc, .int .i64 y.reg, .int .i64 y.val] 70)))
              have HS7 := hid (Nat.le_trans HSi.out hg7.size)
              have hs7 := hg7.size
              clear hr7 hg7
              go_wp2_with (at_builtin; refine wpList_append_ins rfl (.tmp 43) (.tmp 46) rfl w.heap.size (.slice a0 m c0) m xs rfl HL7.out ⟨w7.heap.size, 0, none⟩ y rfl (ins_laid w7 y _) (by omega) (by simp; omega) ?_)
              intro v8 w8 hown8 hgrow8 hat8
              obtain ⟨a8, c8, rfl, hb8⟩ := own_shape hown8
              rw [ownBlock_slice] at hgrow8 hat8
              rw [ownBlock_slice] at hat8
              have HL8 := hid (show OwX w8 w.heap.size a8 c8 (xs ++ [y]) by
                have e : (xs ++ [y]).length = m + 1 := by rw [List.length_append, ← HM.out]; rfl
                unfold OwX
                rw [e]
                exact hown8)
              have HP8 := hid (HP7.out.grown hgrow8 (fun y hy => HLT.out y hy))
              have HR8 := hid (HR7.out.kept hgrow8 (fun y hy => by have := (own_blk HL7.out y hy).1; omega))
              have HG8 := hid (grown_trans HG7.out hgrow8 (fun y hy => .inr (own_blk HL7.out y hy).1))
              have HS8 := hid (show wo.heap.size ≤ w8.heap.size by have h1 := hgrow8.size; have h2 := HS7.out; simp at h1; omega)
              have HLT8 := hid (show ∀ y, blk a8 = some y → wo.heap.size ≤ y from fun y hy => by
                rcases hat8 with h | h
                · exact HLT.out y (by rw [← h]; exact hy)
                · rw [hy] at h; have h2 := HS7.out; simp at h; omega)
              have HE8 := hid (show (xs ++ [y]).length = m + 1 by rw [List.length_append, ← HM.out]; rfl)
              clear hown8 hgrow8 hat8 hb8
              go_wp2_with fail
              go_roundw
              case rel => exact ⟨j - 1, q3, c8, a8, xs ++ [y], by rw [show ((j - 1 : Nat) : Int) = (j : Int) - 1 by omega], hid (by rw [HE8.out]; omega), by omega, by rw [HE8.out], HL8, HLT8, HP8, HS8, HR8, HG8⟩
              case measure => simp [intOf]; omega
            · have hj' : decide ((0 : Int) < (j : Int)) = false := by simp; omega
              have hj'' : decide (0 < j) = false := by simp; omega
              clear hj
              go_wp2_with (at_builtin; refine wpList_pushn rfl (.tmp 48) (.tmp 50) rfl w.heap.size wo.heap.size b n c Q HN.out.symm rfl (HPi.out.below ((Below.refl _ _).alloc (Nat.le_refl _) _)) a0 c0 m xs HM.out.symm (HL.out.alloc _) HLT.out ⟨wi.heap.size, 0, none⟩ rfl (by simp) (by omega) (by simp; omega) ?_)
              intro a9 c9 w9 hP9 hg9
              have HP9 := hid hP9
              have HR9 := hid ((rdr_alloc HRi.out (.cells #[.slice a0 m c0] 30)).kept hg9 (fun y hy => by
                obtain ⟨rs, _, ho, _⟩ := HPi.out
                have := (own_blk ho y hy).1
                omega))
              have HG9 := hid (grown_trans (grown_alloc HGi.out (.cells #[.slice a0 m c0] 30)) hg9 (fun y hy => .inr (by
                obtain ⟨rs, _, ho, _⟩ := HPi.out
                exact (own_blk ho y hy).1)))
              have HE9 := hid (show (Q ++ [xs]).length = n + 1 by rw [List.length_append, ← HN.out]; rfl)
              have HZ9 := hid (show sizeP (Q ++ [xs]) ≤ 4 * (n + 1) by rw [sizeP_push, ← HM.out]; omega)
              clear hP9 hg9
              go_wp2_with fail
              go_roundw
              case rel => exact ⟨k - 1, q2, c9, a9, Q ++ [xs], by rw [show ((k - 1 : Nat) : Int) = (k : Int) - 1 by omega], hid (by rw [HE9.out]; omega), hid (by rw [HE9.out]; exact HZ9.out), by omega, by rw [HE9.out], HP9, HR9, HG9⟩
              case measure => simp [intOf]; omega
        · have hk' : decide ((0 : Int) < (k : Int)) = false := by simp; omega
          have hk'' : decide (0 < k) = false := by simp; omega
          clear hk
          have HPV := hid (pvS_c wo b c Q HP.out.rd (by omega))
          rw [← HN.out] at HPV
          obtain ⟨V, hV⟩ : ∃ V, V = progValid Q := ⟨_, rfl⟩
          rw [← hV] at HPV
          have HV := hid hV
          clear hV
          cases V
          · go_wp2_with fail
            refine HPV.out.mono ?_
            rintro e w6 ⟨rfl, hb6⟩
            have HR6 := hid (HR.out.below hb6)
            have HG6 := hid (grown_trans HG.out (grown_below hb6 (some g)) (fun k hk => .inl hk.symm))
            have hs6 := hb6.size
            clear hb6
            go_wp2_with fail
            refine (HIN.out _ _ HR6.out (by omega)).mono ?_
            rintro e w7 ⟨y, q3, rfl, hy, hr7, hq3, hg7⟩
            have HR7 := hid (rdr_alloc (rdr_alloc hr7 (.cells #[.int .i64 y.op, .int .i64 y.loc, .int .i64 y.reg, .int .i64 y.val] 70)) (.cells #[.slice (some ⟨w7.heap.size, 0, none⟩) 1 1] 30))
            have HG7 := hid (grown_alloc (grown_alloc (grown_trans HG6.out hg7 (fun k hk => .inl hk.symm)) (.cells #[.int .i64 y.op, .int .i64 y.loc, .int .i64 y.reg, .int .i64 y.val] 70)) (.cells #[.slice (some ⟨w7.heap.size, 0, none⟩) 1 1] 30))
            have HA7 := hid (AvP.one w7 g y hr7.lt)
            have HY := hid hy
            clear hr7 hg7 hy
            go_wp2_with fail
            go_ret
            exact ⟨[[y]], _, _, q3, rfl, Nat.le_refl _, HA7.out, (valid_ins y).trans HY.out, HR7.out, by omega, HG7.out⟩
          · go_wp2_with fail
            refine HPV.out.mono ?_
            rintro e w6 ⟨rfl, hb6⟩
            have HR6 := hid (HR.out.below hb6)
            have HG6 := hid (grown_trans HG.out (grown_below hb6 (some g)) (fun k hk => .inl hk.symm))
            have HP6 := hid (HP.out.below hb6)
            clear hb6
            go_wp2_with fail
            go_ret
            exact ⟨Q, b, c, q, by rw [← HN.out]; rfl, HP6.out.cap, HP6.out.av hglt, HV.out.symm, HR6.out, by omega, HG6.out⟩
    · go_wp2_with fail
      go_ret
      exact ⟨P, a4, c4, p + 1 + 1, rfl, HP4.out.cap, HP4.out.av (by omega), (by simpa using HVAL.out), HR4.out, by omega, HG4.out⟩
  · have hx' : decide (0 < x) = false := by rw [decide_eq_false_iff_not]; omega
    clear hx
    go_wp2_with fail
    have HRa := hid (rdr_alloc HR2.out (.cells #[] 30))
    have HGa := hid (grown_alloc HG2.out (.cells #[] 30))
    have HPa := hid (OwP.nil w2 w.heap.size 30 (by omega) rfl)
    refine (numLitAt (w2.alloc (.cells #[] 30)) (w2.heap.size + 1) (by simp) g bs _ [2, 3, 1] HRa.out (by omega) (by decide) (by decide)).mono ?_
    rintro e w5 ⟨x5, rfl, hx5, hr5, hg5⟩
    have HR5 := hid hr5
    have HG5 := hid (grown_trans HGa.out hg5 (fun k hk => .inl hk.symm))
    have hs5 : w2.heap.size + 1 ≤ w5.heap.size := by have := hg5.size; simp at this; omega
    have HP5 := hid ((HPa.out.kept_g hg5 hglt).up hs5)
    obtain ⟨n5, rfl, hn5⟩ : ∃ n5 : Nat, x5 = n5 ∧ n5 ≤ 3 := by
      simp only [List.mem_cons, List.not_mem_nil, or_false] at hx5
      rcases hx5 with rfl | rfl | rfl
      · exact ⟨2, rfl, by omega⟩
      · exact ⟨3, rfl, by omega⟩
      · exact ⟨1, rfl, by omega⟩
    clear hr5 hg5 hx5 HRa HGa HPa
    go_wp2_with fail
    go_loopw [6, 7] (fun v i wr => ∃ (k q c : Nat) (b : Option Addr) (Q : Prg), i = .int .i64 k ∧ Hid (Q.length + k ≤ 3) ∧ Hid (sizeP Q ≤ 4 * Q.length) ∧ q + 20 * k ≤ p + 80 ∧ v = .slice b Q.length c ∧ Hid (OwP wr w.heap.size wr.heap.size b c Q) ∧ Hid (Rdr wr g bs q) ∧ Hid (w.grownBy wr (some g))) (fun _ i _ => (intOf i).toNat)
    case atStart => exact ⟨n5, _, _, _, [], rfl, hid (by simp; omega), hid (by simp [sizeP]), by omega, rfl, HP5, HR5, HG5⟩
    case round =>
      obtain ⟨k, q, c, b, Q, rfl, HQK, HSZ, hq, rfl, HP, HR, HG⟩ := hrel
      obtain ⟨wo, rfl⟩ : ∃ wo : World, wo = wr := ⟨_, rfl⟩
      have hso := HG.out.size
      obtain ⟨n, hn⟩ : ∃ n, n = Q.length := ⟨_, rfl⟩
      have HN := hid hn
      have hnk : n + k ≤ 3 := by rw [hn]; exact HQK.out
      have hsz : sizeP Q ≤ 4 * n := by rw [hn]; exact HSZ.out
      rw [← hn]
      clear hn
      by_cases hk : 0 < k
      · have HOa := hid (own_lit0 wo w.heap.size 70 4 (by omega))
        have HPb := hid (HP.out.below ((Below.refl _ _).alloc (Nat.le_refl _) (.cells #[] 70)))
        have HRb := hid (rdr_alloc HR.out (.cells #[] 70))
        have HGb := hid (grown_alloc HG.out (.cells #[] 70))
        have hk' : (0 : Int) < (k : Int) := by omega
        go_wp2_with fail
        refine (numLitAt (wo.alloc (.cells #[] 70)) (wo.heap.size + 1) (by simp) g bs _ [2, 1, 3, 2, 0] HRb.out (by omega) (by decide) (by decide)).mono ?_
        rintro e w6 ⟨x6, rfl, hx6, hr6, hg6⟩
        have HR6 := hid hr6
        have HG6 := hid (grown_trans HGb.out hg6 (fun k hk => .inl hk.symm))
        have hs6 : wo.heap.size + 1 ≤ w6.heap.size := by have := hg6.size; simp at this; omega
        have HP6 := hid (HPb.out.kept_g hg6 hglt)
        have HO6 := hid (own_kept_g HOa.out hg6 hglt)
        obtain ⟨n6, rfl, hn6⟩ : ∃ n6 : Nat, x6 = n6 ∧ n6 ≤ 3 := by
          simp only [List.mem_cons, List.not_mem_nil, or_false] at hx6
          rcases hx6 with rfl | rfl | rfl | rfl | rfl
          · exact ⟨2, rfl, by omega⟩
          · exact ⟨1, rfl, by omega⟩
          · exact ⟨3, rfl, by omega⟩
          · exact ⟨2, rfl, by omega⟩
          · exact ⟨0, rfl, by omega⟩
        clear hr6 hg6 hx6 HOa HPb HRb HGb
        go_wp2_with fail
        go_loopw [8, 9] (fun v i wr => ∃ (j q c0 : Nat) (a0 : Option Addr) (xs : List Ins), i = .int .i64 j ∧ Hid (xs.length + j ≤ 3) ∧ q + 5 * j + 20 * k ≤ p + 97 ∧ v = .slice a0 xs.length c0 ∧ Hid (OwX wr w.heap.size a0 c0 xs) ∧ Hid (∀ y, blk a0 = some y → wo.heap.size ≤ y) ∧ Hid (OwP wr w.heap.size wo.heap.size b c Q) ∧ Hid (wo.heap.size ≤ wr.heap.size) ∧ Hid (Rdr wr g bs q) ∧ Hid (w.grownBy wr (some g))) (fun _ i _ => (intOf i).toNat)
        case atStart => exact ⟨n6, _, _, _, [], rfl, hid (by simp; omega), by omega, rfl, HO6, hid (fun y hy => by simp [blk] at hy; omega), HP6, hid (by omega), HR6, HG6⟩
        case round =>
          obtain ⟨j, q2, c0, a0, xs, rfl, HXJ, hq2, rfl, HL, HLT, HPi, HSi, HRi, HGi⟩ := hrel
          obtain ⟨wi, rfl⟩ : ∃ wi : World, wi = wr := ⟨_, rfl⟩
          have hsi := HGi.out.size
          obtain ⟨m, hm⟩ : ∃ m, m = xs.length := ⟨_, rfl⟩
          have HM := hid hm
          have hmj : m + j ≤ 3 := by rw [hm]; exact HXJ.out
          have HL' := hid (show wi.ownsRow w.heap.size 70 4 (.slice a0 m c0) m (insV xs) by rw [hm]; exact HL.out)
          rw [← hm]
          clear hm HL
          have HL := HL'
          clear HL'
          by_cases hj : 0 < j
          · have hj' : (0 : Int) < (j : Int) := by omega
            go_wp2_with fail
            refine (HIN.out _ _ HRi.out (by omega)).mono ?_
            rintro e w7 ⟨y, q3, rfl, _, hr7, hq3, hg7⟩
            have HR7 := hid (rdr_alloc hr7 (.cells #[.int .i64 y.op, .int .i64 y.loc, .int .i64 y.reg, .int .i64 y.val] 70))
            have HG7 := hid (grown_alloc (grown_trans HGi.out hg7 (fun k hk => .inl hk.symm)) (.cells #[.int .i64 y.op, .int .i64 y.loc, .int .i64 y.reg, .int .i64 y.val] 70))
            have HL7 := hid ((own_kept_g HL.out hg7 hglt).alloc (.cells #[.int .i64 y.op, .int .i64 y.loc, .int .i64 y.reg, .int .i64 y.val] 70))
            have HP7 := hid ((HPi.out.kept_g hg7 hglt).below ((Below.refl _ _).alloc (Nat.le_refl _) (.cells #[.int .i64 y.op, .int .i64 y.loc, .int .i64 y.reg, .int .i64 y.val] 70)))
            have HS7 := hid (Nat.le_trans HSi.out hg7.size)
            have hs7 := hg7.size
            clear hr7 hg7
            go_wp2_with (at_builtin; refine wpList_append_ins rfl (.tmp 43) (.tmp 46) rfl w.heap.size (.slice a0 m c0) m xs rfl HL7.out ⟨w7.heap.size, 0, none⟩ y rfl (ins_laid w7 y _) (by omega) (by simp; omega) ?_)
            intro v8 w8 hown8 hgrow8 hat8
            obtain ⟨a8, c8, rfl, hb8⟩ := own_shape hown8
            rw [ownBlock_slice] at hgrow8 hat8
            rw [ownBlock_slice] at hat8
            have HL8 := hid (show OwX w8 w.heap.size a8 c8 (xs ++ [y]) by
              have e : (xs ++ [y]).length = m + 1 := by rw [List.length_append, ← HM.out]; rfl
              unfold OwX
              rw [e]
              exact hown8)
            have HP8 := hid (HP7.out.grown hgrow8 (fun y hy => HLT.out y hy))
            have HR8 := hid (HR7.out.kept hgrow8 (fun y hy => by have := (own_blk HL7.out y hy).1; omega))
            have HG8 := hid (grown_trans HG7.out hgrow8 (fun y hy => .inr (own_blk HL7.out y hy).1))
            have HS8 := hid (show wo.heap.size ≤ w8.heap.size by have h1 := hgrow8.size; have h2 := HS7.out; simp at h1; omega)
            have HLT8 := hid (show ∀ y, blk a8 = some y → wo.heap.size ≤ y from fun y hy => by
              rcases hat8 with h | h
              · exact HLT.out y (by rw [← h]; exact hy)
              · rw [hy] at h; have h2 := HS7.out; simp at h; omega)
            have HE8 := hid (show (xs ++ [y]).length = m + 1 by rw [List.length_append, ← HM.out]; rfl)
            clear hown8 hgrow8 hat8 hb8
            go_wp2_with fail
            go_roundw
            case rel => exact ⟨j - 1, q3, c8, a8, xs ++ [y], by rw [show ((j - 1 : Nat) : Int) = (j : Int) - 1 by omega], hid (by rw [HE8.out]; omega), by omega, by rw [HE8.out], HL8, HLT8, HP8, HS8, HR8, HG8⟩
            case measure => simp [intOf]; omega
          · have hj' : decide ((0 : Int) < (j : Int)) = false := by simp; omega
            have hj'' : decide (0 < j) = false := by simp; omega
            clear hj
            go_wp2_with (at_builtin; refine wpList_pushn rfl (.tmp 48) (.tmp 50) rfl w.heap.size wo.heap.size b n c Q HN.out.symm rfl (HPi.out.below ((Below.refl _ _).alloc (Nat.le_refl _) _)) a0 c0 m xs HM.out.symm (HL.out.alloc _) HLT.out ⟨wi.heap.size, 0, none⟩ rfl (by simp) (by omega) (by simp; omega) ?_)
            intro a9 c9 w9 hP9 hg9
            have HP9 := hid hP9
            have HR9 := hid ((rdr_alloc HRi.out (.cells #[.slice a0 m c0] 30)).kept hg9 (fun y hy => by
              obtain ⟨rs, _, ho, _⟩ := HPi.out
              have := (own_blk ho y hy).1
              omega))
            have HG9 := hid (grown_trans (grown_alloc HGi.out (.cells #[.slice a0 m c0] 30)) hg9 (fun y hy => .inr (by
              obtain ⟨rs, _, ho, _⟩ := HPi.out
              exact (own_blk ho y hy).1)))
            have HE9 := hid (show (Q ++ [xs]).length = n + 1 by rw [List.length_append, ← HN.out]; rfl)
            have HZ9 := hid (show sizeP (Q ++ [xs]) ≤ 4 * (n + 1) by rw [sizeP_push, ← HM.out]; omega)
            clear hP9 hg9
            go_wp2_with fail
            go_roundw
            case rel => exact ⟨k - 1, q2, c9, a9, Q ++ [xs], by rw [show ((k - 1 : Nat) : Int) = (k : Int) - 1 by omega], hid (by rw [HE9.out]; omega), hid (by rw [HE9.out]; exact HZ9.out), by omega, by rw [HE9.out], HP9, HR9, HG9⟩
            case measure => simp [intOf]; omega
      · have hk' : decide ((0 : Int) < (k : Int)) = false := by simp; omega
        have hk'' : decide (0 < k) = false := by simp; omega
        clear hk
        have HPV := hid (pvS_c wo b c Q HP.out.rd (by omega))
        rw [← HN.out] at HPV
        obtain ⟨V, hV⟩ : ∃ V, V = progValid Q := ⟨_, rfl⟩
        rw [← hV] at HPV
        have HV := hid hV
        clear hV
        cases V
        · go_wp2_with fail
          refine HPV.out.mono ?_
          rintro e w6 ⟨rfl, hb6⟩
          have HR6 := hid (HR.out.below hb6)
          have HG6 := hid (grown_trans HG.out (grown_below hb6 (some g)) (fun k hk => .inl hk.symm))
          have hs6 := hb6.size
          clear hb6
          go_wp2_with fail
          refine (HIN.out _ _ HR6.out (by omega)).mono ?_
          rintro e w7 ⟨y, q3, rfl, hy, hr7, hq3, hg7⟩
          have HR7 := hid (rdr_alloc (rdr_alloc hr7 (.cells #[.int .i64 y.op, .int .i64 y.loc, .int .i64 y.reg, .int .i64 y.val] 70)) (.cells #[.slice (some ⟨w7.heap.size, 0, none⟩) 1 1] 30))
          have HG7 := hid (grown_alloc (grown_alloc (grown_trans HG6.out hg7 (fun k hk => .inl hk.symm)) (.cells #[.int .i64 y.op, .int .i64 y.loc, .int .i64 y.reg, .int .i64 y.val] 70)) (.cells #[.slice (some ⟨w7.heap.size, 0, none⟩) 1 1] 30))
          have HA7 := hid (AvP.one w7 g y hr7.lt)
          have HY := hid hy
          clear hr7 hg7 hy
          go_wp2_with fail
          go_ret
          exact ⟨[[y]], _, _, q3, rfl, Nat.le_refl _, HA7.out, (valid_ins y).trans HY.out, HR7.out, by omega, HG7.out⟩
        · go_wp2_with fail
          refine HPV.out.mono ?_
          rintro e w6 ⟨rfl, hb6⟩
          have HR6 := hid (HR.out.below hb6)
          have HG6 := hid (grown_trans HG.out (grown_below hb6 (some g)) (fun k hk => .inl hk.symm))
          have HP6 := hid (HP.out.below hb6)
          clear hb6
          go_wp2_with fail
          go_ret
          exact ⟨Q, b, c, q, by rw [← HN.out]; rfl, HP6.out.cap, HP6.out.av hglt, HV.out.symm, HR6.out, by omega, HG6.out⟩
end Go.Proofs.Ythlmfjoiicnomaa
