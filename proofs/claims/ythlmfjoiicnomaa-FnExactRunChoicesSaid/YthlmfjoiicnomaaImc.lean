/-
  PROVED HERE: what (*values).outcome does. CONDITIONS: as each theorem states.
-/
import Derived.Test.YthlmfjoiicnomaaImb
namespace Go.Proofs.Ythlmfjoiicnomaa
open Go.RowKit
set_option linter.unusedVariables false
set_option linter.unusedSimpArgs false

theorem run_index3_0 (w : World) (x0 x1 x2 : Int) : (Instr.index 103 (.agg #[.int .u8 x0, .int .u8 x1, .int .u8 x2]) (.int .i64 0)).run Try.prog w = .ok (.int .u8 x0) w := by kernel_rfl
theorem run_index3_1 (w : World) (x0 x1 x2 : Int) : (Instr.index 103 (.agg #[.int .u8 x0, .int .u8 x1, .int .u8 x2]) (.int .i64 1)).run Try.prog w = .ok (.int .u8 x1) w := by kernel_rfl
theorem run_index3_2 (w : World) (x0 x1 x2 : Int) : (Instr.index 103 (.agg #[.int .u8 x0, .int .u8 x1, .int .u8 x2]) (.int .i64 2)).run Try.prog w = .ok (.int .u8 x2) w := by kernel_rfl
theorem run_index3 (w : World) (x0 x1 x2 : Int) (k : Nat) (y : Int) (h : [x0, x1, x2][k]? = some y) : (Instr.index 103 (.agg #[.int .u8 x0, .int .u8 x1, .int .u8 x2]) (.int .i64 (k : Int))).run Try.prog w = .ok (.int .u8 y) w := by
  match k, h with
  | 0, h => simp at h; subst h; exact run_index3_0 w _ _ _
  | 1, h => simp at h; subst h; exact run_index3_1 w _ _ _
  | 2, h => simp at h; subst h; exact run_index3_2 w _ _ _
  | k + 3, h => simp at h

/-- Append of one number, behind a new block that holds it. -/
theorem own_snoc {w w' : World} {base : Nat} {v : Value} {xs : List Int} {x : Int} (h : w'.ownsRow base 3 1 v (xs.length + 1) (ints xs ++ [.int .i64 x])) : w'.ownsRow base 3 1 v (xs ++ [x]).length (ints (xs ++ [x])) := by
  rw [List.length_append]
  simpa [ints] using h

set_option maxRecDepth 100000 in
set_option maxHeartbeats 3200000 in
theorem outcome_c (w : World) (g : Nat) (p : Prg) (s : St) (h : VAt w g p s) (hv : Shape p) :
    Calls Try.prog 142 #[.pointer (some ⟨g, 0, none⟩)] w (RetL w (out3 s)) := by
  obtain ⟨a, cap, hrp, h0, _, hreg, hmem⟩ := h.cells hv
  have hgl : g < w.heap.size := World.block_lt_of_cell? w ⟨g, 0, none⟩ h0
  have HL := hid h.good.regl
  have HM := hid h.good.meml
  have HRB := hid h.good.regb
  have HMB := hid h.good.memb
  obtain ⟨n, hn⟩ : ∃ n, n = p.length := ⟨_, rfl⟩
  have hn3 : n ≤ 3 := by rw [hn]; exact hv.len
  rw [← hn] at h0 HL
  have HREG := hid (fun (wr : World) (hb : Below w.heap.size w wr) (i : Nat) (k : Int) (hi : s.regs[i]? = some k) => (hb.cell (p := ⟨g, 4 + i, none⟩) hgl).trans (hreg i k hi))
  have HMEM := hid (fun (wr : World) (hb : Below w.heap.size w wr) (i : Nat) (k : Int) (hi : s.mem[i]? = some k) => (hb.cell (p := ⟨g, 13 + i, none⟩) hgl).trans (hmem i k hi))
  clear hreg hmem hrp hv h hn
  go_enter Try.func142, Try.ntmps142
  go_wp2_with fail
  go_loopw [3, 14] (fun v i wr => ∃ t : Nat, t ≤ n ∧ i = .int .i64 t ∧ Hid (wr.ownsRow w.heap.size 3 1 v (s.regs.take (t * 3)).length (ints (s.regs.take (t * 3)))) ∧ Hid (Below w.heap.size w wr)) (fun _ i _ => n - (intOf i).toNat)
  case atStart => exact ⟨0, Nat.zero_le _, rfl, hid (by simpa using own_none w w.heap.size 3 1), hid (Below.refl _ _)⟩
  case round =>
    obtain ⟨t, ht, rfl, HO, HB⟩ := hrel
    by_cases hlt : t < n
    · obtain ⟨r0, e0⟩ : ∃ r, s.regs[t * 3]? = some r := ⟨_, List.getElem?_eq_getElem (by rw [HL.out]; omega)⟩
      obtain ⟨r1, e1⟩ : ∃ r, s.regs[t * 3 + 1]? = some r := ⟨_, List.getElem?_eq_getElem (by rw [HL.out]; omega)⟩
      obtain ⟨r2, e2⟩ : ∃ r, s.regs[t * 3 + 2]? = some r := ⟨_, List.getElem?_eq_getElem (by rw [HL.out]; omega)⟩
      have c0 := HREG.out wr HB.out _ _ e0
      have c1 := HREG.out wr HB.out _ _ e1
      have c2 := HREG.out wr HB.out _ _ e2
      rw [← Nat.add_assoc] at c1 c2
      have HE := hid (And.intro e0 (And.intro e1 e2))
      have ht3 : (t : Int) < 3 := by omega
      have HLT := hid (fun (j : Nat) (hj : j ≤ 3) => show (s.regs.take (t * 3 + j)).length ≤ 12 by rw [List.length_take, HL.out]; omega)
      clear e0 e1 e2
      go_wp2_with fail
      clear c0 c1 c2
      go_loopw [3, 23] (fun v i wr => ∃ j : Nat, j ≤ 3 ∧ i = .int .i64 j ∧ Hid (wr.ownsRow w.heap.size 3 1 v (s.regs.take (t * 3 + j)).length (ints (s.regs.take (t * 3 + j)))) ∧ Hid (Below w.heap.size w wr)) (fun _ i _ => 3 - (intOf i).toNat)
      case atStart => exact ⟨0, by omega, rfl, HO, HB⟩
      case round =>
        obtain ⟨j, hj, rfl, HO2, HB2⟩ := hrel
        by_cases hj3 : j < 3
        · obtain ⟨y, hy, hry⟩ : ∃ y, [r0, r1, r2][j]? = some y ∧ s.regs[t * 3 + j]? = some y := by
            match j, hj3 with
            | 0, _ => exact ⟨r0, rfl, HE.out.1⟩
            | 1, _ => exact ⟨r1, rfl, HE.out.2.1⟩
            | 2, _ => exact ⟨r2, rfl, HE.out.2.2⟩
          have hix := fun w => run_index3 w r0 r1 r2 j y hy
          have HY := hid hry
          have hyb := HRB.out y (List.mem_of_getElem? hry)
          have HT := hid (take_snoc hry)
          have hll := HLT.out j hj
          obtain ⟨L, eL⟩ : ∃ L, L = s.regs.take (t * 3 + j) := ⟨_, rfl⟩
          rw [← eL] at HT hll HO2
          have hj3' : (j : Int) < 3 := by omega
          have hb2 := HB2.out.size
          clear hry hy eL
          go_wp2_with (at_builtin; refine wpList_append_one rfl (.tmp 26) (.tmp 29) 24 rfl w.heap.size 3 (.int .i64 0) 8 Try.underlying24 Try.info_int rfl _ _ _ rfl (HO2.out.alloc _) _ (.int .i64 y) rfl (by simp) rfl (by omega) (by omega) (by simp; omega) ?_)
          intro v1 w4 hown1 hgrow1
          have HO4 := hid (own_snoc (w := w) hown1)
          rw [← HT.out] at HO4
          have HB4 := hid ((HB2.out.alloc HB2.out.size _).grown hgrow1 (by simp; omega) (fun b hb => (HO2.out.lt b hb).1))
          clear hown1 hgrow1
          go_wp2_with fail
          go_roundw
          case rel => exact ⟨j + 1, by omega, by go_num, HO4, HB4⟩
          case measure => simp [intOf]; omega
        · obtain rfl : j = 3 := by omega
          have HO3 := hid (show wr.ownsRow w.heap.size 3 1 _ (s.regs.take ((t + 1) * 3)).length (ints (s.regs.take ((t + 1) * 3))) by rw [show (t + 1) * 3 = t * 3 + 3 by omega]; exact HO2.out)
          go_wp2_with fail
          go_roundw
          case rel => exact ⟨t + 1, by omega, by go_num, HO3, HB2⟩
          case measure => simp [intOf]; omega
    · have hall : s.regs.take (t * 3) = s.regs := List.take_of_length_le (by rw [HL.out]; omega)
      rw [hall] at HO
      obtain ⟨r0, e0⟩ : ∃ r, s.mem[0]? = some r := ⟨_, List.getElem?_eq_getElem (by rw [HM.out]; omega)⟩
      obtain ⟨r1, e1⟩ : ∃ r, s.mem[1]? = some r := ⟨_, List.getElem?_eq_getElem (by rw [HM.out]; omega)⟩
      obtain ⟨r2, e2⟩ : ∃ r, s.mem[2]? = some r := ⟨_, List.getElem?_eq_getElem (by rw [HM.out]; omega)⟩
      have c0 := HMEM.out wr HB.out _ _ e0
      have c1 := HMEM.out wr HB.out _ _ e1
      have c2 := HMEM.out wr HB.out _ _ e2
      have HE := hid (And.intro e0 (And.intro e1 e2))
      have HLT := hid (fun (j : Nat) (hj : j ≤ 3) => show (s.regs ++ s.mem.take j).length ≤ 12 by rw [List.length_append, List.length_take, HL.out]; omega)
      clear e0 e1 e2 hall
      go_wp2_with fail
      clear c0 c1 c2
      go_loopw [3, 37] (fun v i wr => ∃ j : Nat, j ≤ 3 ∧ i = .int .i64 j ∧ Hid (wr.ownsRow w.heap.size 3 1 v (s.regs ++ s.mem.take j).length (ints (s.regs ++ s.mem.take j))) ∧ Hid (Below w.heap.size w wr)) (fun _ i _ => 3 - (intOf i).toNat)
      case atStart => exact ⟨0, by omega, rfl, hid (by simpa using HO.out), HB⟩
      case round =>
        obtain ⟨j, hj, rfl, HO2, HB2⟩ := hrel
        by_cases hj3 : j < 3
        · obtain ⟨y, hy, hry⟩ : ∃ y, [r0, r1, r2][j]? = some y ∧ s.mem[j]? = some y := by
            match j, hj3 with
            | 0, _ => exact ⟨r0, rfl, HE.out.1⟩
            | 1, _ => exact ⟨r1, rfl, HE.out.2.1⟩
            | 2, _ => exact ⟨r2, rfl, HE.out.2.2⟩
          have hix := fun w => run_index3 w r0 r1 r2 j y hy
          have hyb := HMB.out y (List.mem_of_getElem? hry)
          have HT := hid (show s.regs ++ s.mem.take (j + 1) = (s.regs ++ s.mem.take j) ++ [y] by rw [take_snoc hry, List.append_assoc])
          have hll := HLT.out j hj
          obtain ⟨L, eL⟩ : ∃ L, L = s.regs ++ s.mem.take j := ⟨_, rfl⟩
          rw [← eL] at HT hll HO2
          have hj3' : (j : Int) < 3 := by omega
          have hb2 := HB2.out.size
          clear hry hy eL
          go_wp2_with (at_builtin; refine wpList_append_one rfl (.tmp 40) (.tmp 43) 24 rfl w.heap.size 3 (.int .i64 0) 8 Try.underlying24 Try.info_int rfl _ _ _ rfl (HO2.out.alloc _) _ (.int .i64 y) rfl (by simp) rfl (by omega) (by omega) (by simp; omega) ?_)
          intro v1 w4 hown1 hgrow1
          have HO4 := hid (own_snoc (w := w) hown1)
          rw [← HT.out] at HO4
          have HB4 := hid ((HB2.out.alloc HB2.out.size _).grown hgrow1 (by simp; omega) (fun b hb => (HO2.out.lt b hb).1))
          clear hown1 hgrow1
          go_wp2_with fail
          go_roundw
          case rel => exact ⟨j + 1, by omega, by go_num, HO4, HB4⟩
          case measure => simp [intOf]; omega
        · obtain rfl : j = 3 := by omega
          have HO3 := hid (show wr.ownsRow w.heap.size 3 1 _ (out3 s).length (ints (out3 s)) by
            have : s.mem.take 3 = s.mem := List.take_of_length_le (by rw [HM.out]; omega)
            have h := HO2.out
            rw [this] at h
            exact h)
          obtain ⟨a1, cap1, rfl, _⟩ := own_shape HO3.out
          go_wp2
          go_ret
          exact ⟨_, _, rfl, HO3.out, HB2.out⟩
end Go.Proofs.Ythlmfjoiicnomaa
