/-
  PROVED HERE: what laws.markInstrS and markInstrSS do. CONDITIONS: as each theorem states.
-/
import Derived.Test.YthlmfjoiicnomaaPrgB
namespace Go.Proofs.Ythlmfjoiicnomaa
open Go.RowKit
set_option linter.unusedVariables false
set_option linter.unusedSimpArgs false

theorem own_apartC {w : World} {base base' e e' size size' n n' cap cap' : Nat} {a a' : Option Addr} {cs cs' : List Value} (h : w.ownsRow base e size (.slice a n cap) n cs) (h' : w.ownsRow base' e' size' (.slice a' n' cap') n' cs') (hne : e ≠ e')
    {b : Nat} (hb : blk a = some b) (hb' : blk a' = some b) : False := by
  rcases h.2 with ⟨hv, _⟩ | ⟨g, c, cur, hv, _, hg, _⟩
  · simp only [Value.slice.injEq] at hv; obtain ⟨rfl, _⟩ := hv; simp [blk] at hb
  · simp only [Value.slice.injEq] at hv; obtain ⟨rfl, _⟩ := hv
    rcases h'.2 with ⟨hv', _⟩ | ⟨g', c', cur', hv', _, hg', _⟩
    · simp only [Value.slice.injEq] at hv'; obtain ⟨rfl, _⟩ := hv'; simp [blk] at hb'
    · simp only [Value.slice.injEq] at hv'; obtain ⟨rfl, _⟩ := hv'
      simp only [blk, Option.some.injEq] at hb hb'
      subst hb
      subst hb'
      rw [hg] at hg'
      simp only [Option.some.injEq, Obj.cells.injEq] at hg'
      exact hne hg'.2.1

theorem rowsV_setC (rs : List (Option Addr × Nat)) (p : Prg) (i : Nat) (xs ys : List Ins) (hi : p[i]? = some xs) (hl : ys.length = xs.length) : rowsV rs (p.set i ys) = rowsV rs p := by
  apply List.ext_getElem?
  intro j
  simp only [rowsV, List.getElem?_zipWith, List.getElem?_set]
  by_cases hj : i = j
  · subst hj
    rw [if_pos rfl, if_pos (List.getElem?_eq_some_iff.1 hi).1, hi]
    cases rs[i]? <;> simp [hl]
  · rw [if_neg hj]

/-- One row of a program that the call owns. -/
theorem OwP.lensC {w : World} {base top cap : Nat} {a : Option Addr} {p : Prg} (h : OwP w base top a cap p) (i : Nat) (hi : i < p.length) :
    ∃ g r c xs, a = some ⟨g, 0, none⟩ ∧ base ≤ g ∧ g < w.heap.size ∧ p[i]? = some xs ∧ w.cell? ⟨g, i, none⟩ = some (.slice r xs.length c) ∧ OwX w base r c xs ∧ (∀ b, blk r = some b → b < top) ∧
      ∀ w1 ys, ys.length = xs.length → w1.ownsRow base 70 4 (.slice r xs.length c) xs.length (insV ys) → Keeps (fun b => blk r = some b) w w1 → OwP w1 base top a cap (p.set i ys) := by
  obtain ⟨rs, hl, ho, hi', hd, ht, ht'⟩ := h
  obtain ⟨g, rfl, hg1, hg2⟩ := own_some ho (by omega)
  have e1 : rs[i]? = some rs[i] := List.getElem?_eq_getElem (by omega)
  have e2 : p[i]? = some p[i] := List.getElem?_eq_getElem hi
  have hc := (ho.cellAt i (by omega)).trans (rowsV_get e1 e2)
  have hX := hi' i _ _ e1 e2
  refine ⟨g, _, _, _, rfl, hg1, hg2, e2, hc, hX, fun b hb => ht i _ b e1 hb, fun w1 ys hy hown hk => ?_⟩
  refine ⟨rs, by simpa using hl, ?_, fun k r xs hr hx => ?_, hd, ht, ht'⟩
  · rw [rowsV_setC rs p i _ ys e2 hy, List.length_set]
    exact own_keeps ho hk fun b hb hb' => own_apartC ho hX (by decide) hb hb'
  · rw [List.getElem?_set] at hx
    by_cases hik : i = k
    · subst hik
      rw [if_pos rfl, if_pos hi] at hx
      simp only [Option.some.injEq] at hx
      subst hx
      rw [e1] at hr
      cases hr
      unfold OwX
      rw [hy]
      exact hown
    · rw [if_neg hik] at hx
      exact own_keeps (hi' k r xs hr hx) hk fun b hb hb' => hik (hd i k _ _ b e1 hr hb' hb)

/-- The numbers from k on, four an instruction. -/
def markI (k : Int) : Ins := ⟨k, k + 1, k + 2, k + 3⟩
def marksI (k : Int) (n : Nat) : List Ins := (List.range n).map fun j => markI (k + 4 * (j : Nat))
theorem length_marksI (k : Int) (n : Nat) : (marksI k n).length = n := by simp [marksI]
theorem marksI_at (k : Int) (n j : Nat) (h : j < n) : (marksI k n)[j]? = some (markI (k + 4 * (j : Nat))) := by simp [marksI, h]
theorem marksI_step (k : Int) (n j : Nat) (xs : List Ins) (hn : xs.length = n) (h : j < n) : ((marksI k n).take j ++ xs.drop j).set j (markI (k + 4 * (j : Nat))) = (marksI k n).take (j + 1) ++ xs.drop (j + 1) := by
  have hm : j < (marksI k n).length := by rw [length_marksI]; exact h
  have hx : j < xs.length := by omega
  have em : (marksI k n)[j] = markI (k + 4 * (j : Nat)) := by
    have := marksI_at k n j h
    rw [List.getElem?_eq_getElem hm] at this
    simpa using this
  have el : ((marksI k n).take j).length = j := by rw [List.length_take, length_marksI]; omega
  rw [← List.getElem_cons_drop hx, List.set_append_right _ _ (by omega), List.take_succ_eq_append_getElem hm, List.append_assoc, em, el, Nat.sub_self, List.set_cons_zero]
  rfl

theorem markInstrS_c (w : World) (base cap : Nat) (a : Option Addr) (xs : List Ins) (k : Int) (h : OwX w base a cap xs) (hl : xs.length ≤ 1048576) (hk0 : 0 ≤ k) (hk1 : k ≤ 1000000000) :
    Calls Try.prog 48 #[.slice a xs.length cap, .int .i64 k] w fun e w' => e = .returned (.int .i64 (k + 4 * xs.length)) ∧ w'.ownsRow base 70 4 (.slice a xs.length cap) xs.length (insV (marksI k xs.length)) ∧ Keeps (fun b => blk a = some b) w w' := by
  obtain ⟨n, hn⟩ : ∃ n, xs.length = n := ⟨_, rfl⟩
  unfold OwX at h
  rw [hn] at h hl ⊢
  have HN : Hid (xs.length = n) := hn
  clear hn
  go_enter Try.func48, Try.ntmps48
  go_wp2
  go_loopw [1, 5] (fun c i wr => ∃ j : Nat, j ≤ n ∧ i = .int .i64 j ∧ c = .int .i64 (k + 4 * j) ∧ wr.ownsRow base 70 4 (.slice a n cap) n (insV ((marksI k n).take j ++ xs.drop j)) ∧ Keeps (fun b => blk a = some b) w wr) (fun _ i _ => n - (intOf i).toNat)
  case atStart => exact ⟨0, Nat.zero_le _, rfl, by simp, by simpa using h, Keeps.refl _ _⟩
  case round =>
    obtain ⟨j, hj, rfl, rfl, hown, hkeep⟩ := hrel
    by_cases hlt : j < n
    · obtain ⟨g, rfl, hg1, hg2⟩ := own_some hown (by omega)
      obtain ⟨z, ⟨z0, z1, z2, z3⟩, f0, f1, f2, f3⟩ := own_slots hown j (by have := HN.out; simp [length_marksI]; omega)
      have HST := hid (own_setIns hown j (markI (k + 4 * (j : Nat))) (by have := HN.out; simp [length_marksI]; omega))
      have HS := hid (marksI_step k n j xs HN.out hlt)
      have HK := hid hkeep
      clear hown hkeep h
      go_wp2
      go_roundw
      case rel =>
        refine ⟨j + 1, by omega, by go_num, by simp; omega, ?_, ?_⟩
        · rw [← HS.out]
          have h1 := HST.out
          unfold markI at h1
          simp only at h1
          have a1 : k + 4 * (j : Int) + 2 = k + 4 * (j : Int) + 1 + 1 := by omega
          have a2 : k + 4 * (j : Int) + 3 = k + 4 * (j : Int) + 1 + 1 + 1 := by omega
          rw [a1, a2] at h1
          first | exact h1 | (unfold markI; rw [a1, a2]; exact h1)
        · have e : ∀ (W : World) o u, Keeps (fun b => blk (some ⟨g, 0, none⟩) = some b) W (W.setCell ⟨g, o, none⟩ u) := fun W o u => (Keeps.setCell W ⟨g, o, none⟩ u).mono fun b hb => by simp [blk, hb]
          exact (((HK.out.trans (e _ _ _)).trans (e _ _ _)).trans (e _ _ _)).trans (e _ _ _)
      case measure => simp [intOf]; omega
    · have HJ := hid (show j = n by omega)
      go_wp2
      go_ret
      refine ⟨ret_int (by rw [HJ.out]), ?_, hkeep⟩
      rw [HJ.out, List.take_of_length_le (by rw [length_marksI]; omega), List.drop_of_length_le (by rw [HN.out]; omega), List.append_nil] at hown
      exact hown

/-- The rows with the numbers from k on. -/
def marksP (k : Int) (p : Prg) : Prg := (List.range p.length).map fun i => marksI (k + 4 * (sumTo i p : Nat)) (p.getD i []).length
theorem length_marksP (k : Int) (p : Prg) : (marksP k p).length = p.length := by simp [marksP]
theorem marksP_at (k : Int) (p : Prg) (i : Nat) (xs : List Ins) (h : p[i]? = some xs) : (marksP k p)[i]? = some (marksI (k + 4 * (sumTo i p : Nat)) xs.length) := by
  obtain ⟨hi, e⟩ := List.getElem?_eq_some_iff.1 h
  simp [marksP, hi, e]
theorem marksP_step (k : Int) (p : Prg) (i : Nat) (xs : List Ins) (h : p[i]? = some xs) : ((marksP k p).take i ++ p.drop i).set i (marksI (k + 4 * (sumTo i p : Nat)) xs.length) = (marksP k p).take (i + 1) ++ p.drop (i + 1) := by
  obtain ⟨hx, rfl⟩ := List.getElem?_eq_some_iff.1 h
  have hm : i < (marksP k p).length := by rw [length_marksP]; exact hx
  have em : (marksP k p)[i] = marksI (k + 4 * (sumTo i p : Nat)) p[i].length := by
    have := marksP_at k p i _ h
    rw [List.getElem?_eq_getElem hm] at this
    simpa using this
  have el : ((marksP k p).take i).length = i := by rw [List.length_take, length_marksP]; omega
  rw [← List.getElem_cons_drop hx, List.set_append_right _ _ (by omega), List.take_succ_eq_append_getElem hm, List.append_assoc, em, el, Nat.sub_self, List.set_cons_zero]
  rfl
theorem marksP_mid (k : Int) (p : Prg) (i : Nat) (hi : i < p.length) : ((marksP k p).take i ++ p.drop i)[i]? = p[i]? := by
  have el : ((marksP k p).take i).length = i := by rw [List.length_take, length_marksP]; omega
  rw [List.getElem?_append_right (by omega), el, List.getElem?_drop]
  simp

theorem markInstrSS_c (w : World) (base top cap : Nat) (a : Option Addr) (p : Prg) (k : Int) (h : OwP w base top a cap p) (hl : sizeP p ≤ 1048576) (hk0 : 0 ≤ k) (hk1 : k ≤ 100000000) :
    Calls Try.prog 21 #[.slice a p.length cap, .int .i64 k] w fun e w' => e = .returned (.int .i64 (k + 4 * (sumTo p.length p : Nat))) ∧ OwP w' base top a cap (marksP k p) ∧ Keeps (fun b => base ≤ b ∧ b < top) w w' := by
  have hpl := sizeP_len p
  have HS := hid (fun i => (show sumTo i p ≤ 1048576 from Nat.le_trans (sumTo_le p i) (by unfold sizeP at hl; omega)))
  have HL := hid hl
  obtain ⟨n, hn⟩ : ∃ n, p.length = n := ⟨_, rfl⟩
  rw [hn] at hpl ⊢
  have HN := hid hn
  have hln : n ≤ 1048576 := by omega
  have H0 := hid h
  clear hn hl hpl h
  go_enter Try.func21, Try.ntmps21
  go_wp2
  go_loopw [1, 5] (fun c i wr => ∃ j : Nat, j ≤ n ∧ i = .int .i64 j ∧ c = .int .i64 (k + 4 * (sumTo j p : Nat)) ∧ Hid (OwP wr base top a cap ((marksP k p).take j ++ p.drop j)) ∧ Hid (Keeps (fun b => base ≤ b ∧ b < top) w wr)) (fun _ i _ => n - (intOf i).toNat)
  case atStart => exact ⟨0, Nat.zero_le _, rfl, by simp [sumTo_zero], hid (by simpa using H0.out), hid (Keeps.refl _ _)⟩
  case round =>
    obtain ⟨j, hj, rfl, rfl, HO, HK⟩ := hrel
    by_cases hlt : j < n
    · obtain ⟨g, r, c, xs, rfl, hg1, hg2, hx, hc, hX, htop, hset⟩ := HO.out.lensC j (by have := HN.out; simp [length_marksP]; omega)
      have hx' : p[j]? = some xs := by rw [← marksP_mid k p j (by rw [HN.out]; exact hlt)]; exact hx
      have HX := hid hX
      have HT := hid htop
      have HR := hid (sumTo_succ hx')
      have HST := hid (marksP_step k p j xs hx')
      have HSET := hid hset
      have hs1 := HS.out j
      have hxl := Nat.le_trans (sizeP_row hx') HL.out
      have HC := hid (fun (w : World) h (k : Int) h0 h1 => markInstrS_c w base c r xs k h hxl h0 h1)
      have HBK := hid (own_blk hX)
      obtain ⟨s, hs⟩ : ∃ s, s = sumTo j p := ⟨_, rfl⟩
      obtain ⟨m, hm⟩ : ∃ m, m = xs.length := ⟨_, rfl⟩
      rw [← hs] at HR HST hs1 ⊢
      unfold OwX at HX HC
      rw [← hm] at HR HST hc HX HSET HC
      clear hs hx hx' hX hset hm hxl htop
      go_wp2_with fail
      refine (HC.out _ HX.out _ (by omega) (by omega)).mono ?_
      rintro e w2 ⟨rfl, ho, hk⟩
      have HO2 := hid (HSET.out w2 _ (length_marksI _ _) ho hk)
      have HK2 := hid (HK.out.trans (hk.mono fun b hb => ⟨(HBK.out b hb).1, HT.out b hb⟩))
      rw [HST.out] at HO2
      clear ho hk
      go_wp2_with fail
      go_roundw
      case rel => exact ⟨j + 1, by omega, by go_num, by rw [HR.out]; simp; omega, HO2, HK2⟩
      case measure => simp [intOf]; omega
    · have HJ := hid (show j = n by omega)
      go_wp2
      go_ret
      have ho := HO.out
      rw [HJ.out, List.take_of_length_le (by rw [length_marksP, HN.out]; omega), List.drop_of_length_le (by rw [HN.out]; omega), List.append_nil] at ho
      exact ⟨ret_int (by rw [HJ.out]), ho, HK.out⟩
end Go.Proofs.Ythlmfjoiicnomaa
