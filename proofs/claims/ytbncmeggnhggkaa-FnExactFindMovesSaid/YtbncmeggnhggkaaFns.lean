/-
  PROVED HERE: what spec.FindSchedule does. CONDITIONS: as each theorem states.
-/
import Derived.Test.YtbncmeggnhggkaaFnd
import Derived.Test.YtbncmeggnhggkaaOut
namespace Go.Proofs.Ytbncmeggnhggkaa
open Go.RowKit
set_option linter.unusedVariables false
set_option linter.unusedSimpArgs false

theorem Try.info_strrow : (Try.prog.info? 139).map (fun i => (i.zero, i.size, i.bytes)) = some (some (.slice none 0 0), 1, 24) := by kernel_rfl
/-- The answer of FindSchedule. -/
def findRes : Option (List Int) → List Int × Bool
  | some π => (π, true)
  | none => ([], false)
def findSch (p : Prg) (o : List Int) : List Int × Bool := if outValid p o then findRes (bestS p o (start3 p 0)) else ([], false)
theorem own_rows0 {w : World} {g : Nat} (h : w.ownsRow 0 139 1 (.slice (some ⟨g, 0, none⟩) 4096 4096) 4096 (madeCells (Value.slice none 0 0).cells (4096 * 1)).toList) : Tab w g (· = g) (List.replicate 4096 []) := by
  refine ⟨List.replicate 4096 (none, 0), 4096, by rw [List.length_replicate, List.length_replicate], ?_, fun k r xs h1 h2 => ?_, fun i k r s b h1 h2 h3 => ?_, fun k r b h1 h2 => ?_, rfl⟩
  · have e : rowsT (List.replicate 4096 ((none : Option Addr), 0)) (List.replicate 4096 []) = (madeCells (Value.slice none 0 0).cells (4096 * 1)).toList := by
      unfold rowsT
      rw [List.zipWith_replicate]
      simp [toList_madeCells_one, Value.cells]
    rw [e, List.length_replicate]
    exact h
  · have h1 := (List.mem_replicate.1 (List.mem_of_getElem? h1)).2
    have h2 := (List.mem_replicate.1 (List.mem_of_getElem? h2)).2
    subst h1
    subst h2
    exact own_none w 0 _ 1
  · have h1 := (List.mem_replicate.1 (List.mem_of_getElem? h1)).2
    subst h1
    cases h3
  · have h1 := (List.mem_replicate.1 (List.mem_of_getElem? h1)).2
    subst h1
    cases h2
/-- What the search gives. -/
def Fs5 (w : World) (p : Prg) (o : List Int) (v : Value) (w' : World) : Prop :=
  ∃ (π : List Int) (B : Bool) (ar : Option Addr) (cr : Nat), v = .tuple #[.slice ar π.length cr, .bool B] ∧ ((bestS p o (start3 p 0) = some π ∧ B = true) ∨ (bestS p o (start3 p 0) = none ∧ B = false ∧ π = [])) ∧ w'.ownsRow w.heap.size 3 1 (.slice ar π.length cr) π.length (ints π) ∧ Below w.heap.size w w'
/-- What the region's acts make: the first state, the table, the result. -/
structure FsI (w w1 : World) (p : Prg) (o : List Int) (S : Nat → Bool) (ρ : Nat → Value) (wx : World) : Prop where
  below : Below w1.heap.size w1 wx ∨ S 5 = true
  ord : S 5 = true → S 2 = true ∧ S 4 = true
  p2 : S 5 = false → S 2 = true → ∃ (q : Sp) (lo hi : Nat), ρ 2 = q.v (start3 p 0) ∧ Kp wx (fun b => lo ≤ b ∧ b < hi) q (start3 p 0) ∧ hi ≤ wx.heap.size ∧ ∀ g, S 4 = true → vblk (ρ 4) = some g → g < lo ∨ hi ≤ g
  p4 : S 5 = false → S 4 = true → ∃ g, ρ 4 = .slice (some ⟨g, 0, none⟩) 4096 4096 ∧ w1.heap.size ≤ g ∧ g < wx.heap.size ∧ Tab wx g (· = g) (List.replicate 4096 [])
  p5 : S 5 = true → Fs5 w p o (ρ 5) wx
section
variable {w w1 wx w2 : World} {p : Prg} {o : List Int} {S : Nat → Bool} {ρ : Nat → Value}
theorem FsI.no5 (h : FsI w w1 p o S ρ wx) (h2 : S 2 = false ∨ S 4 = false) : S 5 = false := by
  cases h5 : S 5 with
  | false => rfl
  | true =>
    obtain ⟨e2, e4⟩ := h.ord h5
    rcases h2 with h2 | h2
    · rw [e2] at h2; cases h2
    · rw [e4] at h2; cases h2
theorem FsI.bel (h : FsI w w1 p o S ρ wx) (h5 : S 5 = false) : Below w1.heap.size w1 wx := by
  rcases h.below with h | h
  · exact h
  · rw [h] at h5; cases h5
theorem FsI.start {q : Sp} (h : FsI w w1 p o S ρ wx) (hS : S 2 = false) (hb : Below wx.heap.size wx w2) (hf : Fresh w2 wx.heap.size q (start3 p 0)) : FsI w w1 p o (FR.upd S 2 true) (FR.upd ρ 2 (q.v (start3 p 0))) w2 := by
  have h5 := h.no5 (.inl hS)
  have h1 := h.bel h5
  have e5 : FR.upd S 2 true 5 = false := by rw [FR.upd_ne _ _ (by decide)]; exact h5
  refine ⟨.inl (h1.trans (hb.mono h1.size)), fun e => (by rw [e5] at e; cases e), fun _ _ => ⟨q, wx.heap.size, w2.heap.size, by rw [FR.upd_same], hf.kp, Nat.le_refl _, fun g hS hg => ?_⟩, fun _ hS => ?_, fun e => (by rw [e5] at e; cases e)⟩
  · rw [FR.upd_ne _ _ (by decide)] at hS hg
    obtain ⟨g', e, _, hlt, _⟩ := h.p4 h5 hS
    rw [e] at hg
    have : g' = g := by simpa [vblk, blk] using hg
    omega
  · rw [FR.upd_ne _ _ (by decide)] at hS ⊢
    obtain ⟨g', e, hl, hlt, ht⟩ := h.p4 h5 hS
    exact ⟨g', e, hl, Nat.lt_of_lt_of_le hlt hb.size, ht.below hb⟩
theorem FsI.table (h : FsI w w1 p o S ρ wx) (hS : S 4 = false) (hb : Below wx.heap.size wx w2) (hlt : wx.heap.size < w2.heap.size) (ht : Tab w2 wx.heap.size (· = wx.heap.size) (List.replicate 4096 [])) : FsI w w1 p o (FR.upd S 4 true) (FR.upd ρ 4 (.slice (some ⟨wx.heap.size, 0, none⟩) 4096 4096)) w2 := by
  have h5 := h.no5 (.inr hS)
  have h1 := h.bel h5
  have e5 : FR.upd S 4 true 5 = false := by rw [FR.upd_ne _ _ (by decide)]; exact h5
  refine ⟨.inl (h1.trans (hb.mono h1.size)), fun e => (by rw [e5] at e; cases e), fun _ hS => ?_, fun _ _ => ⟨wx.heap.size, by rw [FR.upd_same], h1.size, hlt, ht⟩, fun e => (by rw [e5] at e; cases e)⟩
  rw [FR.upd_ne _ _ (by decide)] at hS ⊢
  obtain ⟨q, lo, hi, e, hk, hle, _⟩ := h.p2 h5 hS
  refine ⟨q, lo, hi, e, hk.step (S := fun _ => False) (Keeps.of_below hb) (fun _ e => e.elim), Nat.le_trans hle hb.size, fun g _ hg => ?_⟩
  rw [FR.upd_same] at hg
  have : wx.heap.size = g := by simpa [vblk, blk] using hg
  omega
theorem FsI.find {v : Value} (h2 : S 2 = true) (h4 : S 4 = true) (hv : Fs5 w p o v w2) : FsI w w1 p o (FR.upd S 5 true) (FR.upd ρ 5 v) w2 := by
  have e5 : FR.upd S 5 true 5 = true := FR.upd_same ..
  refine ⟨.inr e5, fun _ => ⟨by rw [FR.upd_ne _ _ (by decide)]; exact h2, by rw [FR.upd_ne _ _ (by decide)]; exact h4⟩, fun e => (by rw [e5] at e; cases e), fun e => (by rw [e5] at e; cases e), fun _ => by rw [FR.upd_same]; exact hv⟩
end
set_option maxRecDepth 100000 in
set_option maxHeartbeats 1600000 in
theorem fsS_c (w : World) (a : Option Addr) (cap : Nat) (p : Prg) (a' : Option Addr) (cap' : Nat) (o : List Int) (h : RdP w a p) (h' : Rd w a' (ints o)) (hl : sizeP p ≤ 1048576) (hl' : o.length ≤ 1048576) :
    Calls Try.prog 28 #[.slice a p.length cap, .slice a' o.length cap'] w (RetLB w (findSch p o)) := by
  have HOV := hid (ovS_c w a cap p a' cap' o h h' hl hl')
  by_cases hv : outValid p o = true
  · have HR := hid (show findSch p o = findRes (bestS p o (start3 p 0)) by unfold findSch; rw [if_pos hv])
    rw [HR.out]
    rw [hv] at HOV
    have hpv : progValid p = true ∧ o.length = p.length * 3 + 3 := by
      unfold outValid at hv
      simp only [Bool.and_eq_true, decide_eq_true_eq] at hv
      exact ⟨hv.1.1, by have := hv.1.2; omega⟩
    have hsh := (valid_of hpv.1).toShape
    have HST := hid (fun w => l3Start_c w a cap p 0 (by have := hsh.len; omega) (by omega))
    have HFI := hid (fun n => l3Find_c w a cap p a' cap' o h h' hpv.1 hpv.2 n)
    unfold FindC at HFI
    obtain ⟨np, hnp⟩ : ∃ np, np = p.length := ⟨_, rfl⟩
    obtain ⟨no, hno⟩ : ∃ no, no = o.length := ⟨_, rfl⟩
    rw [← hnp] at HOV HST HFI ⊢
    rw [← hno] at HOV HFI ⊢
    clear hv hpv hsh h h' hl hl' hnp hno HR
    unfold Sp.v at HST HFI
    go_enter Try.func28, Try.ntmps28
    go_wp2_with fail
    refine HOV.out.mono ?_
    rintro e w1 ⟨rfl, hb1⟩
    have HB1 := hid hb1
    clear hb1
    go_wp2_with fail
    refine FR.wp_region_free 8 (FsI w w1 p o) (by kernel_rfl) (by kernel_rfl) (by kernel_rfl) (fun _ => undef) ⟨.inl (below_drewN 1 (Below.refl _ _)), fun h => (by cases h), fun _ h => (by cases h), fun _ h => (by cases h), fun h => (by cases h)⟩ fun V => ?_
    (refine FR.frGo_pure _ rfl (fun K hK => ?_); go_simp; (first | refine hK _ ?_ | refine ⟨_, fun W hW => rfl, hK _ ?_⟩ | refine ⟨_, fun W hW => ⟨rfl, rfl⟩, hK _ ?_⟩); clear hK K)
    (refine FR.frGo_pure _ rfl (fun K hK => ?_); go_simp; (first | refine hK _ ?_ | refine ⟨_, fun W hW => rfl, hK _ ?_⟩ | refine ⟨_, fun W hW => ⟨rfl, rfl⟩, hK _ ?_⟩); clear hK K)
    refine FR.frGo_act (k := 2) _ rfl (fun S ρ w' hI hS hp K hK => ?_) ?_
    · go_simp
      refine (HST.out w').mono ?_
      rintro e w'' ⟨q, rfl, hf, hb⟩
      exact hK _ _ (hI.start hS hb hf)
    (refine FR.frGo_pure _ rfl (fun K hK => ?_); go_simp; (first | refine hK _ ?_ | refine ⟨_, fun W hW => rfl, hK _ ?_⟩ | refine ⟨_, fun W hW => ⟨rfl, rfl⟩, hK _ ?_⟩); clear hK K)
    refine FR.frGo_act (k := 4) _ rfl (fun S ρ w' hI hS hp K hK => ?_) ?_
    · refine oper_make 74 _ _ rfl 0 139 (.slice none 0 0) 1 24 Try.underlying74 Try.info_strrow (by omega) _ _ 4096 rfl rfl (by omega) (by omega) (by omega) (Nat.zero_le _) ?_
      intro w2 hown hb hlt
      exact hK _ _ (hI.table hS hb hlt (own_rows0 hown))
    refine FR.frGo_act (k := 5) _ rfl (fun S ρ w2 hI hS hp K hK => ?_) ?_
    · have z2 := hp 2 (by kernel_rfl)
      have z4 := hp 4 (by kernel_rfl)
      have hb2 := hI.bel hS
      obtain ⟨q, lo, hi, e2, hk2, hle, hsep⟩ := hI.p2 hS z2.1
      obtain ⟨g, e4, hg1, hg2, ht⟩ := hI.p4 hS z4.1
      have hsep := hsep g z4.1 (by rw [e4]; rfl)
      rw [z2.2] at e2
      rw [z4.2] at e4
      rw [e2, e4] at hK ⊢
      have HB2 := hid (HB1.out.trans (hb2.mono HB1.out.size))
      have HFW := hid (show FiW w w2 p g (· = g) (List.replicate 4096 []) from ⟨HB2.out, ht, TabOk.start _, fun b (hb : b = g) => by have := HB1.out.size; omega⟩)
      have HST2 := hid (show StA w2 (· = g) q (start3 p 0) from ⟨_, hk2, fun b hb => ⟨by omega, fun (e : b = g) => by omega⟩⟩)
      have HRES := hid (HFI.out (left4 p (start3 p 0)) w2 g (· = g) (List.replicate 4096 []) q (start3 p 0) rfl (G3.start p) HFW.out HST2.out (fun s _ _ hf => by rw [found_start] at hf; cases hf))
      go_simp
      refine HRES.out.mono ?_
      rintro e w3 ⟨π, B, ar, cr, S3, tb3, rfl, hres, hrow, hF3, _, _, _⟩
      exact hK _ _ (FsI.find z2.1 z4.1 ⟨π, B, ar, cr, rfl, hres, own_base hrow HB2.out.size, hF3.below⟩)
    by_cases hV : ∃ x y, V 5 = .tuple #[x, y]
    · obtain ⟨x, y, hV⟩ := hV
      have HV := hid hV
      rw [hV]
      clear hV
      (refine FR.frGo_pure _ rfl (fun K hK => ?_); go_simp; (first | refine hK _ ?_ | refine ⟨_, fun W hW => rfl, hK _ ?_⟩ | refine ⟨_, fun W hW => ⟨rfl, rfl⟩, hK _ ?_⟩); clear hK K)
      (refine FR.frGo_pure _ rfl (fun K hK => ?_); go_simp; (first | refine hK _ ?_ | refine ⟨_, fun W hW => rfl, hK _ ?_⟩ | refine ⟨_, fun W hW => ⟨rfl, rfl⟩, hK _ ?_⟩); clear hK K)
      refine FR.frGo_nil _ ?_
      intro S ρ w2 hI hS
      have z5 := hS 5 (by decide) (by kernel_rfl)
      obtain ⟨π, B, ar, cr, e5, hres, hrow, hbel⟩ := hI.p5 z5.1
      rw [z5.2, HV.out] at e5
      have e6 : x = .slice ar π.length cr ∧ y = .bool B := by
        simp only [Value.tuple.injEq] at e5
        have := congrArg Array.toList e5
        simpa using this
      obtain ⟨rfl, rfl⟩ := e6
      have HOWN := hid hrow
      have HBEL := hid hbel
      have HRS := hid hres
      clear hI hS z5 e5 hres hrow hbel
      refine wpMix_rd rfl rfl (fun K hK => ?_)
      go_simp
      refine hK _ ?_
      clear hK K
      (with_reducible refine wpMix_rd rfl rfl (fun K hK => ?_); go_simp; (try go_bits); refine hK _ ?_; clear hK K)
      (with_reducible refine wpMix_nil ?_)
      go_wp2_with fail
      go_ret2
      rcases HRS.out with ⟨hb, rfl⟩ | ⟨hb, rfl, rfl⟩
      · rw [hb]
        exact ⟨ar, cr, rfl, HOWN.out, HBEL.out⟩
      · rw [hb]
        exact ⟨ar, cr, rfl, HOWN.out, HBEL.out⟩
    · have bad : ∀ S ρ w', FsI w w1 p o S ρ w' → (S 5 = true ∧ ρ 5 = V 5) → False := fun S ρ w' h e5 => by
        obtain ⟨π, B, ar, cr, e, _⟩ := h.p5 e5.1
        rw [e5.2] at e
        exact hV ⟨_, _, e⟩
      refine FR.frGo_held (k := 6) _ rfl (fun _ => False) (fun S ρ w' h hp => bad S ρ w' h (hp 5 (by kernel_rfl))) (fun K hK => ?_)
      refine ⟨undef, fun W hW => hW.elim, hK _ ?_⟩
      clear hK K
      refine FR.frGo_held (k := 7) _ rfl (fun _ => False) (fun S ρ w' h hp => bad S ρ w' h (hp 5 (by kernel_rfl))) (fun K hK => ?_)
      refine ⟨undef, fun W hW => hW.elim, hK _ ?_⟩
      clear hK K
      exact FR.frGo_nil _ fun S ρ w' hI hS => (bad S ρ w' hI (hS 5 (by decide) (by kernel_rfl))).elim
  · have hv : outValid p o = false := by simpa using hv
    have HR := hid (show findSch p o = ([], false) by unfold findSch; rw [hv]; rfl)
    rw [HR.out]
    rw [hv] at HOV
    clear hv h h' hl hl' HR
    go_enter Try.func28, Try.ntmps28
    go_wp2_with fail
    refine HOV.out.mono ?_
    rintro e w1 ⟨rfl, hb1⟩
    have HB1 := hid hb1
    clear hb1
    go_wp2_with fail
    go_ret2
    exact retLB_lit HB1.out
end Go.Proofs.Ytbncmeggnhggkaa
