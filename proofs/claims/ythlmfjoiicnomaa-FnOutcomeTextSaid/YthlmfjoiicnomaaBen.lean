/-
  PROVED HERE: what (*l17Rd).of and spec.l1Bend do. CONDITIONS: as each theorem states.
-/
import Derived.Test.YthlmfjoiicnomaaDrp
import Derived.Test.YthlmfjoiicnomaaMixJ
namespace Go.Proofs.Ythlmfjoiicnomaa
open Go.RowKit
set_option linter.unusedVariables false
set_option linter.unusedSimpArgs false

/-- Texts that lie in a block. -/
def StrAt (w : World) (H n : Nat) : Prop := H < w.heap.size ∧ ∀ k, k < n → ∃ s : ByteArray, s.size ≤ 100 ∧ w.cell? ⟨H, k, none⟩ = some (.string s)
theorem str_at (w : World) (arr : Array Value) (e n : Nat) (h : (List.range n).all (fun k => strB (arr[k]?)) = true) : StrAt (w.alloc (.cells arr e)) w.heap.size n := by
  refine ⟨by simp, fun k hk => ?_⟩
  have hb := List.all_eq_true.1 h k (List.mem_range.2 hk)
  unfold strB at hb
  split at hb
  · rename_i s hs
    exact ⟨s, by simpa using hb, by rw [cell_of_row _ w.heap.size k _ e (0, 0) (heap_alloc_new w _)]; exact hs⟩
  · cases hb
theorem StrAt.kept {w w' : World} {H g n : Nat} (h : StrAt w H n) (hg : w.grownBy w' (some g)) (hne : H ≠ g) : StrAt w' H n :=
  ⟨Nat.lt_of_lt_of_le h.1 hg.size, fun k hk => by
    obtain ⟨s, h1, h2⟩ := h.2 k hk
    exact ⟨s, h1, hg.cell h2 (fun e => hne (Option.some.inj e))⟩⟩
theorem StrAt.below {w w' : World} {H n : Nat} (h : StrAt w H n) (hb : Below w.heap.size w w') : StrAt w' H n :=
  ⟨Nat.lt_of_lt_of_le h.1 hb.size, fun k hk => by
    obtain ⟨s, h1, h2⟩ := h.2 k hk
    exact ⟨s, h1, (hb.cell (p := ⟨H, k, none⟩) h.1).trans h2⟩⟩

theorem of_c (w : World) (g : Nat) (bs : List Int) (p H n : Nat) (h : Rdr w g bs p) (hp : p ≤ 900000) (hs : StrAt w H n) (hn : 1 ≤ n) (hn1 : n ≤ 100) (hne : H ≠ g) :
    Calls Try.prog 82 #[.pointer (some ⟨g, 0, none⟩), .slice (some ⟨H, 0, none⟩) n n] w fun e w' => ∃ s : ByteArray, e = .returned (.string s) ∧ s.size ≤ 100 ∧ Rdr w' g bs (p + 1) ∧ w.grownBy w' (some g) := by
  have HP := hid (pick_c w g bs p n h (by omega) (by omega))
  have HS := hid hs
  clear h hs
  go_enter Try.func82, Try.ntmps82
  go_wp2_with fail
  refine HP.out.mono ?_
  rintro e w1 ⟨x, rfl, hx0, hx1, hr1, hg1⟩
  obtain ⟨y, rfl⟩ := Int.eq_ofNat_of_zero_le hx0
  have hyn : y < n := by omega
  obtain ⟨s, hs1, hs2⟩ := (HS.out.kept hg1 hne).2 y hyn
  have HR := hid hr1
  have HG := hid hg1
  have HSZ := hid hs1
  clear hx1 hr1 hg1 hs1
  go_wp2_with fail
  go_ret
  exact ⟨s, rfl, HSZ.out, HR.out, HG.out⟩

set_option maxRecDepth 100000 in
theorem l1Bend_c (w : World) (g : Nat) (bs : List Int) (p H n : Nat) (s : ByteArray) (h : Rdr w g bs p) (hp : p ≤ 800000) (hl : StrAt w H n) (hn : 1 ≤ n) (hn1 : n ≤ 100) (hne : H ≠ g) (hs : s.size ≤ 1000) :
    Calls Try.prog 56 #[.pointer (some ⟨g, 0, none⟩), .string s, .slice (some ⟨H, 0, none⟩) n n] w fun e w' => ∃ (t : ByteArray) (q : Nat), e = .returned (.string t) ∧ t.size ≤ 2100 ∧ q ≤ p + 10 ∧ Rdr w' g bs q ∧ w.grownBy w' (some g) := by
  have HP := hid (fun w (q : Nat) (n : Int) (h : Rdr w g bs q) (hq : q ≤ 1000000) (hn : n ≤ 1000000000) => pick_c w g bs q n h hq hn)
  have HO := hid (fun w (q : Nat) (h : Rdr w g bs q) (hq : q ≤ 900000) (hs : StrAt w H n) => of_c w g bs q H n h hq hs hn hn1 hne)
  have HL := hid hl
  have HR := hid h
  have HNE := hid hne
  clear h hl hne
  by_cases h0 : s.size = 0
  · have e0 : ((s.size : Int) == 0) = true := by rw [h0]; rfl
    have hrefl : w.grownBy w (some g) := ⟨rfl, rfl, rfl, Nat.le_refl _, fun _ _ _ => rfl⟩
    have HRF := hid hrefl
    clear h0 hrefl
    go_enter Try.func56, Try.ntmps56
    go_wp2_with fail
    go_ret
    exact ⟨s, p, rfl, by omega, by omega, HR.out, HRF.out⟩
  · have e0 : ((s.size : Int) == 0) = false := by rw [beq_eq_false_iff_ne]; omega
    have hpos : 0 < s.size := by omega
    clear h0
    go_enter Try.func56, Try.ntmps56
    go_wp2_with fail
    refine (HP.out _ p 2 HR.out (by omega) (by omega)).mono ?_
    rintro e w1 ⟨x, rfl, hx0, hx1, hr1, hg1⟩
    have HR1 := hid hr1
    have HG1 := hid hg1
    have HL1 := hid (HL.out.kept hg1 HNE.out)
    clear hr1 hg1
    by_cases hx : x = 0
    · have ex : (x == 0) = true := by rw [hx]; rfl
      clear hx0 hx1 hx
      go_wp2_with fail
      go_ret
      exact ⟨s, p + 1, rfl, by omega, by omega, HR1.out, HG1.out⟩
    · have ex : (x == 0) = false := by simpa using hx
      clear hx0 hx1 hx
      go_wp2_with fail
      refine (HP.out _ (p + 1) s.size HR1.out (by omega) (by omega)).mono ?_
      rintro e w2 ⟨y', rfl, hy0, hy1, hr2, hg2⟩
      have HR2 := hid hr2
      have HG2 := hid (grown_trans HG1.out hg2 (fun k hk => .inl hk.symm))
      have HL2 := hid (HL1.out.kept hg2 HNE.out)
      obtain ⟨y, rfl⟩ := Int.eq_ofNat_of_zero_le hy0
      have hys : y < s.size := by omega
      clear hr2 hg2 hy0 hy1
      obtain ⟨J, hJ⟩ : ∃ J : World → Prop, J = fun _ => True := ⟨_, rfl⟩
      have HJ := hid (fun w' => show J w' by rw [hJ]; trivial)
      clear hJ
      have hyl : y ≤ s.size := by omega
      have sz1 : (s.extract 0 y).size ≤ 1000 := by rw [ByteArray.size_extract]; omega
      have HR2d := hid (show Rdr w2.drew g bs (p + 1 + 1) from HR2.out)
      have HL2d := hid (show StrAt w2.drew H n from HL2.out)
      have HG2d := hid (show w.grownBy w2.drew (some g) from grown_drew HG2.out)
      go_wp2_with fail
      refine MJ.wp_region_mix (J := J) (by kernel_rfl) (by kernel_rfl) ?_
      (refine MJ.wpMix_pure rfl rfl (fun K hK => ?_); go_simp; (first | refine hK _ ?_ | refine ⟨_, fun W hW => rfl, hK _ ?_⟩ | refine ⟨_, fun W hW => ⟨rfl, rfl⟩, hK _ ?_⟩); clear hK K)
      (refine MJ.wpMix_pure rfl rfl (fun K hK => ?_); go_simp; (first | refine hK _ ?_ | refine ⟨_, fun W hW => rfl, hK _ ?_⟩ | refine ⟨_, fun W hW => ⟨rfl, rfl⟩, hK _ ?_⟩); clear hK K)
      refine MJ.wpMix_load (.string (s.extract 0 y)) rfl rfl (HJ.out _) (fun w' _ => ?_) ?_
      · go_simp
      (refine MJ.wpMix_pure rfl rfl (fun K hK => ?_); go_simp; (first | refine hK _ ?_ | refine ⟨_, fun W hW => rfl, hK _ ?_⟩ | refine ⟨_, fun W hW => ⟨rfl, rfl⟩, hK _ ?_⟩); clear hK K)
      (refine MJ.wpMix_pure rfl rfl (fun K hK => ?_); go_simp; (first | refine hK _ ?_ | refine ⟨_, fun W hW => rfl, hK _ ?_⟩ | refine ⟨_, fun W hW => ⟨rfl, rfl⟩, hK _ ?_⟩); clear hK K)
      (with_reducible refine MJ.wpMix_make rfl rfl (fun K hK => ?_); go_simp)
      refine (HO.out _ (p + 1 + 1) HR2d.out (by omega) HL2d.out).mono ?_
      rintro e w3 ⟨t, rfl, ht, hr3, hg3⟩
      have HR3 := hid hr3
      have HG3 := hid (grown_trans HG2d.out hg3 (fun k hk => .inl hk.symm))
      clear hr3 hg3
      refine hK _ _ (HJ.out _) ?_
      clear hK K
      have hyt : (9223372036854775807 < y + t.size) = False := by rw [eq_iff_iff, iff_false]; omega
      have sz2 : (s.extract 0 y ++ t).size ≤ 1100 := by rw [ByteArray.size_append]; omega
      (refine MJ.wpMix_pure rfl rfl (fun K hK => ?_); go_simp; (first | refine hK _ ?_ | refine ⟨_, fun W hW => rfl, hK _ ?_⟩ | refine ⟨_, fun W hW => ⟨rfl, rfl⟩, hK _ ?_⟩); clear hK K)
      (refine MJ.wpMix_pure rfl rfl (fun K hK => ?_); go_simp; (first | refine hK _ ?_ | refine ⟨_, fun W hW => rfl, hK _ ?_⟩ | refine ⟨_, fun W hW => ⟨rfl, rfl⟩, hK _ ?_⟩); clear hK K)
      (refine MJ.wpMix_pure rfl rfl (fun K hK => ?_); go_simp; (first | refine hK _ ?_ | refine ⟨_, fun W hW => rfl, hK _ ?_⟩ | refine ⟨_, fun W hW => ⟨rfl, rfl⟩, hK _ ?_⟩); clear hK K)
      (refine MJ.wpMix_pure rfl rfl (fun K hK => ?_); go_simp; (first | refine hK _ ?_ | refine ⟨_, fun W hW => rfl, hK _ ?_⟩ | refine ⟨_, fun W hW => ⟨rfl, rfl⟩, hK _ ?_⟩); clear hK K)
      (with_reducible refine MJ.wpMix_make rfl rfl (fun K hK => ?_); go_simp)
      refine (HP.out _ (p + 1 + 1 + 1) 2 HR3.out (by omega) (by omega)).mono ?_
      rintro e w4 ⟨x2, rfl, hx0, hx1, hr4, hg4⟩
      have HR4 := hid hr4
      have HG4 := hid (grown_trans HG3.out hg4 (fun k hk => .inl hk.symm))
      obtain ⟨z, rfl⟩ := Int.eq_ofNat_of_zero_le hx0
      have hz : y + z ≤ s.size := by omega
      have hz1 : z ≤ 1 := by omega
      clear hr4 hg4 hx0 hx1
      refine hK _ _ (HJ.out _) ?_
      clear hK K
      have sz3 : (s.extract (y + z) s.size).size ≤ 1000 := by rw [ByteArray.size_extract]; omega
      have hyt4 : (9223372036854775807 < y + t.size + (s.size - (y + z))) = False := by rw [eq_iff_iff, iff_false]; omega
      have HWZ := hid (show IntKind.i64.wrap ((y : Int) + (z : Int)) = ((y + z : Nat) : Int) by rw [IntWalk.i64_in _ (by omega)]; simp)
      have sz4 : (s.extract 0 y ++ t ++ s.extract (y + z) s.size).size ≤ 2100 := by rw [ByteArray.size_append]; omega
      (refine MJ.wpMix_pure rfl rfl (fun K hK => ?_); go_simp; (first | refine hK _ ?_ | refine ⟨_, fun W hW => rfl, hK _ ?_⟩ | refine ⟨_, fun W hW => ⟨rfl, rfl⟩, hK _ ?_⟩); clear hK K)
      refine MJ.wpMix_load (.string (s.extract (y + z) s.size)) rfl rfl (HJ.out _) (fun w' _ => ?_) ?_
      · go_simp
        rw [HWZ.out, if_pos ⟨by omega, by omega⟩]
        rfl
      (refine MJ.wpMix_pure rfl rfl (fun K hK => ?_); go_simp; (first | refine hK _ ?_ | refine ⟨_, fun W hW => rfl, hK _ ?_⟩ | refine ⟨_, fun W hW => ⟨rfl, rfl⟩, hK _ ?_⟩); clear hK K)
      (refine MJ.wpMix_pure rfl rfl (fun K hK => ?_); go_simp; (first | refine hK _ ?_ | refine ⟨_, fun W hW => rfl, hK _ ?_⟩ | refine ⟨_, fun W hW => ⟨rfl, rfl⟩, hK _ ?_⟩); clear hK K)
      refine MJ.wpMix_nil ?_
      go_wp2_with fail
      go_ret
      exact ⟨_, p + 1 + 1 + 1 + 1, rfl, by rw [ByteArray.size_append, ByteArray.size_append]; omega, by omega, HR4.out, HG4.out⟩
end Go.Proofs.Ythlmfjoiicnomaa
