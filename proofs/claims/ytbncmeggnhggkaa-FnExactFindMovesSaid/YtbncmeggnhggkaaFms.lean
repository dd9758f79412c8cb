/-
  PROVED HERE: what spec.FindMoves does. CONDITIONS: as each theorem states.
-/
import Derived.Test.YtbncmeggnhggkaaFnm
import Derived.Test.YtbncmeggnhggkaaFns
namespace Go.Proofs.Ytbncmeggnhggkaa
open Go.RowKit
set_option linter.unusedVariables false
set_option linter.unusedSimpArgs false

def findMov (p : Prg) (split : Bool) (o : List Int) : List Int × Bool := if outValid p o then findRes (bestM p split o (start4 p split)) else ([], false)
/-- What the search gives. -/
def Fm5 (w : World) (p : Prg) (split : Bool) (o : List Int) (v : Value) (w' : World) : Prop :=
  ∃ (π : List Int) (B : Bool) (ar : Option Addr) (cr : Nat), v = .tuple #[.slice ar π.length cr, .bool B] ∧ ((bestM p split o (start4 p split) = some π ∧ B = true) ∨ (bestM p split o (start4 p split) = none ∧ B = false ∧ π = [])) ∧ w'.ownsRow w.heap.size 3 1 (.slice ar π.length cr) π.length (ints π) ∧ Below w.heap.size w w'
/-- What the region's acts make: the first state, the table, the result. -/
structure FmI (w w1 : World) (p : Prg) (split : Bool) (o : List Int) (S : Nat → Bool) (ρ : Nat → Value) (wx : World) : Prop where
  below : Below w1.heap.size w1 wx ∨ S 7 = true
  ord : S 7 = true → S 3 = true ∧ S 6 = true
  p2 : S 7 = false → S 3 = true → ∃ (q : Sp) (lo hi : Nat), ρ 3 = q.v (start4 p split) ∧ Kp wx (fun b => lo ≤ b ∧ b < hi) q (start4 p split) ∧ hi ≤ wx.heap.size ∧ ∀ g, S 6 = true → vblk (ρ 6) = some g → g < lo ∨ hi ≤ g
  p4 : S 7 = false → S 6 = true → ∃ g, ρ 6 = .slice (some ⟨g, 0, none⟩) 4096 4096 ∧ w1.heap.size ≤ g ∧ g < wx.heap.size ∧ Tab wx g (· = g) (List.replicate 4096 [])
  p5 : S 7 = true → Fm5 w p split o (ρ 7) wx
section
variable {w w1 wx w2 : World} {p : Prg} {split : Bool} {o : List Int} {S : Nat → Bool} {ρ : Nat → Value}
theorem FmI.no5 (h : FmI w w1 p split o S ρ wx) (h2 : S 3 = false ∨ S 6 = false) : S 7 = false := by
  cases h5 : S 7 with
  | false => rfl
  | true =>
    obtain ⟨e2, e4⟩ := h.ord h5
    rcases h2 with h2 | h2
    · rw [e2] at h2; cases h2
    · rw [e4] at h2; cases h2
theorem FmI.bel (h : FmI w w1 p split o S ρ wx) (h5 : S 7 = false) : Below w1.heap.size w1 wx := by
  rcases h.below with h | h
  · exact h
  · rw [h] at h5; cases h5
theorem FmI.start {q : Sp} (h : FmI w w1 p split o S ρ wx) (hS : S 3 = false) (hb : Below wx.heap.size wx w2) (hf : Fresh w2 wx.heap.size q (start4 p split)) : FmI w w1 p split o (FR.upd S 3 true) (FR.upd ρ 3 (q.v (start4 p split))) w2 := by
  have h5 := h.no5 (.inl hS)
  have h1 := h.bel h5
  have e5 : FR.upd S 3 true 7 = false := by rw [FR.upd_ne _ _ (by decide)]; exact h5
  refine ⟨.inl (h1.trans (hb.mono h1.size)), fun e => (by rw [e5] at e; cases e), fun _ _ => ⟨q, wx.heap.size, w2.heap.size, by rw [FR.upd_same], hf.kp, Nat.le_refl _, fun g hS hg => ?_⟩, fun _ hS => ?_, fun e => (by rw [e5] at e; cases e)⟩
  · rw [FR.upd_ne _ _ (by decide)] at hS hg
    obtain ⟨g', e, _, hlt, _⟩ := h.p4 h5 hS
    rw [e] at hg
    have : g' = g := by simpa [vblk, blk] using hg
    omega
  · rw [FR.upd_ne _ _ (by decide)] at hS ⊢
    obtain ⟨g', e, hl, hlt, ht⟩ := h.p4 h5 hS
    exact ⟨g', e, hl, Nat.lt_of_lt_of_le hlt hb.size, ht.below hb⟩
theorem FmI.table (h : FmI w w1 p split o S ρ wx) (hS : S 6 = false) (hb : Below wx.heap.size wx w2) (hlt : wx.heap.size < w2.heap.size) (ht : Tab w2 wx.heap.size (· = wx.heap.size) (List.replicate 4096 [])) : FmI w w1 p split o (FR.upd S 6 true) (FR.upd ρ 6 (.slice (some ⟨wx.heap.size, 0, none⟩) 4096 4096)) w2 := by
  have h5 := h.no5 (.inr hS)
  have h1 := h.bel h5
  have e5 : FR.upd S 6 true 7 = false := by rw [FR.upd_ne _ _ (by decide)]; exact h5
  refine ⟨.inl (h1.trans (hb.mono h1.size)), fun e => (by rw [e5] at e; cases e), fun _ hS => ?_, fun _ _ => ⟨wx.heap.size, by rw [FR.upd_same], h1.size, hlt, ht⟩, fun e => (by rw [e5] at e; cases e)⟩
  rw [FR.upd_ne _ _ (by decide)] at hS ⊢
  obtain ⟨q, lo, hi, e, hk, hle, _⟩ := h.p2 h5 hS
  refine ⟨q, lo, hi, e, hk.step (S := fun _ => False) (Keeps.of_below hb) (fun _ e => e.elim), Nat.le_trans hle hb.size, fun g _ hg => ?_⟩
  rw [FR.upd_same] at hg
  have : wx.heap.size = g := by simpa [vblk, blk] using hg
  omega
theorem FmI.find {v : Value} (h2 : S 3 = true) (h4 : S 6 = true) (hv : Fm5 w p split o v w2) : FmI w w1 p split o (FR.upd S 7 true) (FR.upd ρ 7 v) w2 := by
  have e5 : FR.upd S 7 true 7 = true := FR.upd_same ..
  refine ⟨.inr e5, fun _ => ⟨by rw [FR.upd_ne _ _ (by decide)]; exact h2, by rw [FR.upd_ne _ _ (by decide)]; exact h4⟩, fun e => (by rw [e5] at e; cases e), fun e => (by rw [e5] at e; cases e), fun _ => by rw [FR.upd_same]; exact hv⟩
end
set_option maxRecDepth 100000 in
set_option maxHeartbeats 1600000 in
theorem fmS_c (w : World) (a : Option Addr) (cap : Nat) (p : Prg) (split : Bool) (a' : Option Addr) (cap' : Nat) (o : List Int) (h : RdP w a p) (h' : Rd w a' (ints o)) (hl : sizeP p ≤ 1048576) (hl' : o.length ≤ 1048576) :
    Calls Try.prog 30 #[.slice a p.length cap, .bool split, .slice a' o.length cap'] w (RetLB w (findMov p split o)) := by
  have HOV := hid (ovS_c w a cap p a' cap' o h h' hl hl')
  by_cases hv : outValid p o = true
  · have HR := hid (show findMov p split o = findRes (bestM p split o (start4 p split)) by unfold findMov; rw [if_pos hv])
    rw [HR.out]
    rw [hv] at HOV
    have hpv : progValid p = true ∧ o.length = p.length * 3 + 3 := by
      unfold outValid at hv
      simp only [Bool.and_eq_true, decide_eq_true_eq] at hv
      exact ⟨hv.1.1, by have := hv.1.2; omega⟩
    have hsh := (valid_of hpv.1).toShape
    have HST := hid (fun w => l4Start_c w a cap p split hsh.len)
    have HFI := hid (fun n => l4Find_c w a cap p split a' cap' o h h' hpv.1 hpv.2 n)
    unfold FindC4 at HFI
    obtain ⟨np, hnp⟩ : ∃ np, np = p.length := ⟨_, rfl⟩
    obtain ⟨no, hno⟩ : ∃ no, no = o.length := ⟨_, rfl⟩
    rw [← hnp] at HOV HST HFI ⊢
    rw [← hno] at HOV HFI ⊢
    clear hv hpv hsh h h' hl hl' hnp hno HR
    unfold Sp.v at HST HFI
    go_enter Try.func30, Try.ntmps30
    go_wp2_with fail
    refine HOV.out.mono ?_
    rintro e w1 ⟨rfl, hb1⟩
    have HB1 := hid hb1
    clear hb1
    go_wp2_with fail
    refine FR.wp_region_free 10 (FmI w w1 p split o) (by kernel_rfl) (by kernel_rfl) (by kernel_rfl) (fun _ => undef) ⟨.inl (below_drewN 1 (Below.refl _ _)), fun h => (by cases h), fun _ h => (by cases h), fun _ h => (by cases h), fun h => (by cases h)⟩ fun V => ?_
    (refine FR.frGo_pure _ rfl (fun K hK => ?_); go_simp; (first | refine hK _ ?_ | refine ⟨_, fun W hW => rfl, hK _ ?_⟩ | refine ⟨_, fun W hW => ⟨rfl, rfl⟩, hK _ ?_⟩); clear hK K)
    (refine FR.frGo_pure _ rfl (fun K hK => ?_); go_simp; (first | refine hK _ ?_ | refine ⟨_, fun W hW => rfl, hK _ ?_⟩ | refine ⟨_, fun W hW => ⟨rfl, rfl⟩, hK _ ?_⟩); clear hK K)
    (refine FR.frGo_pure _ rfl (fun K hK => ?_); go_simp; (first | refine hK _ ?_ | refine ⟨_, fun W hW => rfl, hK _ ?_⟩ | refine ⟨_, fun W hW => ⟨rfl, rfl⟩, hK _ ?_⟩); clear hK K)
    refine FR.frGo_act (k := 3) _ rfl (fun S ρ w' hI hS hp K hK => ?_) ?_
    · go_simp
      refine (HST.out w').mono ?_
      rintro e w'' ⟨q, rfl, hf, hb⟩
      exact hK _ _ (hI.start hS hb hf)
    (refine FR.frGo_pure _ rfl (fun K hK => ?_); go_simp; (first | refine hK _ ?_ | refine ⟨_, fun W hW => rfl, hK _ ?_⟩ | refine ⟨_, fun W hW => ⟨rfl, rfl⟩, hK _ ?_⟩); clear hK K)
    (refine FR.frGo_pure _ rfl (fun K hK => ?_); go_simp; (first | refine hK _ ?_ | refine ⟨_, fun W hW => rfl, hK _ ?_⟩ | refine ⟨_, fun W hW => ⟨rfl, rfl⟩, hK _ ?_⟩); clear hK K)
    refine FR.frGo_act (k := 6) _ rfl (fun S ρ w' hI hS hp K hK => ?_) ?_
    · refine oper_make 74 _ _ rfl 0 139 (.slice none 0 0) 1 24 Try.underlying74 Try.info_strrow (by omega) _ _ 4096 rfl rfl (by omega) (by omega) (by omega) (Nat.zero_le _) ?_
      intro w2 hown hb hlt
      exact hK _ _ (hI.table hS hb hlt (own_rows0 hown))
    refine FR.frGo_act (k := 7) _ rfl (fun S ρ w2 hI hS hp K hK => ?_) ?_
    · have z2 := hp 3 (by kernel_rfl)
      have z4 := hp 6 (by kernel_rfl)
      have hb2 := hI.bel hS
      obtain ⟨q, lo, hi, e2, hk2, hle, hsep⟩ := hI.p2 hS z2.1
      obtain ⟨g, e4, hg1, hg2, ht⟩ := hI.p4 hS z4.1
      have hsep := hsep g z4.1 (by rw [e4]; rfl)
      rw [z2.2] at e2
      rw [z4.2] at e4
      rw [e2, e4] at hK ⊢
      have HB2 := hid (HB1.out.trans (hb2.mono HB1.out.size))
      have HFW := hid (show FiW4 w w2 p split g (· = g) (List.replicate 4096 []) from ⟨HB2.out, ht, TabOk.start _, fun b (hb : b = g) => by have := HB1.out.size; omega⟩)
      have HST2 := hid (show StA w2 (· = g) q (start4 p split) from ⟨_, hk2, fun b hb => ⟨by omega, fun (e : b = g) => by omega⟩⟩)
      have HRES := hid (HFI.out (left4 p (start4 p split)) w2 g (· = g) (List.replicate 4096 []) q (start4 p split) rfl (R4.start p split) HFW.out HST2.out (fun s _ _ hf => by rw [found_start] at hf; cases hf))
      go_simp
      refine HRES.out.mono ?_
      rintro e w3 ⟨π, B, ar, cr, S3, tb3, rfl, hres, hrow, hF3, _, _, _⟩
      exact hK _ _ (FmI.find z2.1 z4.1 ⟨π, B, ar, cr, rfl, hres, own_base hrow HB2.out.size, hF3.below⟩)
    by_cases hV : ∃ x y, V 7 = .tuple #[x, y]
    · obtain ⟨x, y, hV⟩ := hV
      have HV := hid hV
      rw [hV]
      clear hV
      (refine FR.frGo_pure _ rfl (fun K hK => ?_); go_simp; (first | refine hK _ ?_ | refine ⟨_, fun W hW => rfl, hK _ ?_⟩ | refine ⟨_, fun W hW => ⟨rfl, rfl⟩, hK _ ?_⟩); clear hK K)
      (refine FR.frGo_pure _ rfl (fun K hK => ?_); go_simp; (first | refine hK _ ?_ | refine ⟨_, fun W hW => rfl, hK _ ?_⟩ | refine ⟨_, fun W hW => ⟨rfl, rfl⟩, hK _ ?_⟩); clear hK K)
      refine FR.frGo_nil _ ?_
      intro S ρ w2 hI hS
      have z5 := hS 7 (by decide) (by kernel_rfl)
      obtain ⟨π, B, ar, cr, e5, hres, hrow, hbel⟩ := hI.p5 z5.1
      rw [z5.2, HV.out] at e5
      have e6 : x = .slice ar π.length cr ∧ y = .bool B := by
        simp only [Value.tuple.injEq] at e5
        have := congrArg Array.toList e5
        simpa using this
      obtain ⟨rfl, rfl⟩ := e6
      have HOWN := hid hrow
      have HBEL := hid hbel
      have HRS := hid hres
      clear hI hS z5 e5 hres hrow hbel
      refine wpMix_rd rfl rfl (fun K hK => ?_)
      go_simp
      refine hK _ ?_
      clear hK K
      (with_reducible refine wpMix_rd rfl rfl (fun K hK => ?_); go_simp; (try go_bits); refine hK _ ?_; clear hK K)
      (with_reducible refine wpMix_nil ?_)
      go_wp2_with fail
      go_ret2
      rcases HRS.out with ⟨hb, rfl⟩ | ⟨hb, rfl, rfl⟩
      · rw [hb]
        exact ⟨ar, cr, rfl, HOWN.out, HBEL.out⟩
      · rw [hb]
        exact ⟨ar, cr, rfl, HOWN.out, HBEL.out⟩
    · have bad : ∀ S ρ w', FmI w w1 p split o S ρ w' → (S 7 = true ∧ ρ 7 = V 7) → False := fun S ρ w' h e5 => by
        obtain ⟨π, B, ar, cr, e, _⟩ := h.p5 e5.1
        rw [e5.2] at e
        exact hV ⟨_, _, e⟩
      refine FR.frGo_held (k := 8) _ rfl (fun _ => False) (fun S ρ w' h hp => bad S ρ w' h (hp 7 (by kernel_rfl))) (fun K hK => ?_)
      refine ⟨undef, fun W hW => hW.elim, hK _ ?_⟩
      clear hK K
      refine FR.frGo_held (k := 9) _ rfl (fun _ => False) (fun S ρ w' h hp => bad S ρ w' h (hp 7 (by kernel_rfl))) (fun K hK => ?_)
      refine ⟨undef, fun W hW => hW.elim, hK _ ?_⟩
      clear hK K
      exact FR.frGo_nil _ fun S ρ w' hI hS => (bad S ρ w' hI (hS 7 (by decide) (by kernel_rfl))).elim
  · have hv : outValid p o = false := by simpa using hv
    have HR := hid (show findMov p split o = ([], false) by unfold findMov; rw [hv]; rfl)
    rw [HR.out]
    rw [hv] at HOV
    clear hv h h' hl hl' HR
    go_enter Try.func30, Try.ntmps30
    go_wp2_with fail
    refine HOV.out.mono ?_
    rintro e w1 ⟨rfl, hb1⟩
    have HB1 := hid hb1
    clear hb1
    go_wp2_with fail
    go_ret2
    exact retLB_lit HB1.out
end Go.Proofs.Ytbncmeggnhggkaa
