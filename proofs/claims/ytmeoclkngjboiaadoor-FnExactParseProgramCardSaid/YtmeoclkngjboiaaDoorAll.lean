/-
  PROVED HERE: what impl.allInstrs does. CONDITIONS: as each theorem states.
-/
import Derived.Test.YtmeoclkngjboiaaDoorSpt
import Derived.Test.YtmeoclkngjboiaaDoorRow
namespace Go.Proofs.YtmeoclkngjboiaaDoor
open Go.RowKit
set_option linter.unusedVariables false
set_option linter.unusedSimpArgs false

def insAt (e : Nat) : Ins := ⟨((e / 36 + 1 : Nat) : Int), ((e / 12 % 3 : Nat) : Int), ((e / 4 % 3 : Nat) : Int), ((e % 4 : Nat) : Int)⟩
def allTo : Nat → List Ins
  | 0 => []
  | e + 1 => allTo e ++ if insValid (insAt e) then [insAt e] else []
def allI : List Ins := allTo 180
theorem insAt_eq (o l r v : Nat) (ho : 1 ≤ o) (hl : l < 3) (hr : r < 3) (hv : v < 4) : insAt ((o - 1) * 36 + l * 12 + r * 4 + v) = ⟨(o : Nat), (l : Nat), (r : Nat), (v : Nat)⟩ := by
  unfold insAt
  have e1 : ((o - 1) * 36 + l * 12 + r * 4 + v) / 36 + 1 = o := by omega
  have e2 : ((o - 1) * 36 + l * 12 + r * 4 + v) / 12 % 3 = l := by omega
  have e3 : ((o - 1) * 36 + l * 12 + r * 4 + v) / 4 % 3 = r := by omega
  have e4 : ((o - 1) * 36 + l * 12 + r * 4 + v) % 4 = v := by omega
  rw [e1, e2, e3, e4]
theorem allTo_yes {e : Nat} (h : insValid (insAt e) = true) : allTo (e + 1) = allTo e ++ [insAt e] := by
  show _ ++ (if _ then _ else _) = _
  rw [if_pos h]
theorem allTo_no {e : Nat} (h : insValid (insAt e) = false) : allTo (e + 1) = allTo e := by
  show _ ++ (if _ then _ else _) = _
  rw [if_neg (by rw [h]; decide), List.append_nil]
theorem allTo_len : ∀ e, (allTo e).length ≤ e
  | 0 => Nat.le_refl _
  | e + 1 => by
    have := allTo_len e
    show (allTo e ++ _).length ≤ _
    rw [List.length_append]
    split <;> simp <;> omega

set_option maxRecDepth 100000 in
set_option maxHeartbeats 3200000 in
theorem allI_c (w : World) : Calls Tryd.prog 29 #[] w fun e w' => ∃ a cap, e = .returned (.slice a allI.length cap) ∧ w'.ownsRow w.heap.size 46 4 (.slice a allI.length cap) allI.length (insV allI) ∧ Below w.heap.size w w' := by
  have HYES := hid (fun e (h : insValid (insAt e) = true) => allTo_yes h)
  have HNO := hid (fun e (h : insValid (insAt e) = false) => allTo_no h)
  have HAT := hid insAt_eq
  have HLE := hid allTo_len
  have HALL := hid (show allTo 180 = allI from rfl)
  have HO0 := hid (World.ownsRow_nil w w.heap.size 46 4)
  go_enter Tryd.func29, Tryd.ntmps29
  go_wp2
  go_loopw [1, 2] (fun v o wr => ∃ i : Nat, 1 ≤ i ∧ i ≤ 6 ∧ o = .int .i64 i ∧ Hid (wr.ownsRow w.heap.size 46 4 v (allTo ((i - 1) * 36)).length (insV (allTo ((i - 1) * 36)))) ∧ Hid (Below w.heap.size w wr)) (fun _ o _ => 6 - (intOf o).toNat)
  case atStart => exact ⟨1, Nat.le_refl _, by omega, rfl, HO0, hid (Below.refl _ _)⟩
  case round =>
    obtain ⟨i, hi1, hi6, rfl, HO, HB⟩ := hrel
    by_cases hi : i ≤ 5
    · have hi' : (i : Int) ≤ 5 := by omega
      have HE0 := hid (show (i - 1) * 36 = (i - 1) * 36 + 0 * 12 from by omega)
      rw [HE0.out] at HO
      go_wp2_with fail
      go_loopw [1, 11] (fun v o wr => ∃ l : Nat, l ≤ 3 ∧ o = .int .i64 l ∧ Hid (wr.ownsRow w.heap.size 46 4 v (allTo ((i - 1) * 36 + l * 12)).length (insV (allTo ((i - 1) * 36 + l * 12)))) ∧ Hid (Below w.heap.size w wr)) (fun _ o _ => 3 - (intOf o).toNat)
      case atStart => exact ⟨0, by omega, rfl, HO, HB⟩
      case round =>
        obtain ⟨l, hl3, rfl, HO, HB⟩ := hrel
        by_cases hl : l < 3
        · have hl' : (l : Int) < 3 := by omega
          have HE0 := hid (show (i - 1) * 36 + l * 12 = (i - 1) * 36 + l * 12 + 0 * 4 from by omega)
          rw [HE0.out] at HO
          go_wp2_with fail
          go_loopw [1, 14] (fun v o wr => ∃ r : Nat, r ≤ 3 ∧ o = .int .i64 r ∧ Hid (wr.ownsRow w.heap.size 46 4 v (allTo ((i - 1) * 36 + l * 12 + r * 4)).length (insV (allTo ((i - 1) * 36 + l * 12 + r * 4)))) ∧ Hid (Below w.heap.size w wr)) (fun _ o _ => 3 - (intOf o).toNat)
          case atStart => exact ⟨0, by omega, rfl, HO, HB⟩
          case round =>
            obtain ⟨r, hr3, rfl, HO, HB⟩ := hrel
            by_cases hr : r < 3
            · have hr' : (r : Int) < 3 := by omega
              have HE0 := hid (show (i - 1) * 36 + l * 12 + r * 4 = (i - 1) * 36 + l * 12 + r * 4 + 0 from by omega)
              rw [HE0.out] at HO
              go_wp2_with fail
              go_loopw [1, 17] (fun v o wr => ∃ k : Nat, k ≤ 4 ∧ o = .int .i64 k ∧ Hid (wr.ownsRow w.heap.size 46 4 v (allTo ((i - 1) * 36 + l * 12 + r * 4 + k)).length (insV (allTo ((i - 1) * 36 + l * 12 + r * 4 + k)))) ∧ Hid (Below w.heap.size w wr)) (fun _ o _ => 4 - (intOf o).toNat)
              case atStart => exact ⟨0, by omega, rfl, HO, HB⟩
              case round =>
                obtain ⟨k, hk4, rfl, HO, HB⟩ := hrel
                obtain ⟨wo, rfl⟩ : ∃ wo : World, wo = wr := ⟨_, rfl⟩
                by_cases hk : k < 4
                · have hk' : (k : Int) < 4 := by omega
                  have HEQ := hid (HAT.out i l r k hi1 hl hr hk)
                  have HLL := hid (HLE.out ((i - 1) * 36 + l * 12 + r * 4 + k))
                  have hEB : (i - 1) * 36 + l * 12 + r * 4 + k ≤ 180 := by omega
                  have HY := hid (HYES.out ((i - 1) * 36 + l * 12 + r * 4 + k))
                  have HN := hid (HNO.out ((i - 1) * 36 + l * 12 + r * 4 + k))
                  have HNX := hid (show (i - 1) * 36 + l * 12 + r * 4 + (k + 1) = (i - 1) * 36 + l * 12 + r * 4 + k + 1 from by omega)
                  obtain ⟨E, hE⟩ : ∃ E, E = (i - 1) * 36 + l * 12 + r * 4 + k := ⟨_, rfl⟩
                  rw [← hE] at HEQ HLL HY HN HNX HO hEB
                  have HV := hid (fun w => validI_c w (insAt E))
                  rw [HEQ.out] at HV HY HN
                  have HOA := hid (HO.out.alloc (.cells #[.int .i64 i, .int .i64 l, .int .i64 r, .int .i64 k] 46))
                  have HBA := hid (HB.out.alloc HB.out.size (.cells #[.int .i64 i, .int .i64 l, .int .i64 r, .int .i64 k] 46))
                  have hll := HLL.out
                  clear hE
                  by_cases hv : insValid ⟨(i : Nat), (l : Nat), (r : Nat), (k : Nat)⟩ = true
                  · have HYE := hid (HY.out hv)
                    rw [hv] at HV
                    clear hv
                    go_wp2_with fail
                    refine (HV.out _).mono ?_
                    rintro e w3 ⟨rfl, hb3⟩
                    have HO3 := hid ((own_below HOA.out hb3).alloc (.cells #[.int .i64 i, .int .i64 l, .int .i64 r, .int .i64 k] 46))
                    have HB3' := hid (HBA.out.trans (hb3.mono HBA.out.size))
                    have HB3 := hid (HB3'.out.alloc HB3'.out.size (.cells #[.int .i64 i, .int .i64 l, .int .i64 r, .int .i64 k] 46))
                    have hs3 := HB3'.out.size
                    have y0 : w3.cell? ⟨wo.heap.size, 0, none⟩ = some (.int .i64 i) := by rw [hb3.cell (by simp)]; simp
                    have y1 : w3.cell? ⟨wo.heap.size, 1, none⟩ = some (.int .i64 l) := by rw [hb3.cell (by simp)]; simp
                    have y2 : w3.cell? ⟨wo.heap.size, 2, none⟩ = some (.int .i64 r) := by rw [hb3.cell (by simp)]; simp
                    have y3 : w3.cell? ⟨wo.heap.size, 3, none⟩ = some (.int .i64 k) := by rw [hb3.cell (by simp)]; simp
                    clear hb3
                    go_wp2_with (at_builtin; refine wpList_append_ins rfl (.tmp 27) (.tmp 29) rfl w.heap.size _ _ (allTo E) rfl HO3.out ⟨w3.heap.size, 0, none⟩ ⟨(i : Nat), (l : Nat), (r : Nat), (k : Nat)⟩ rfl (ins_laid w3 ⟨(i : Nat), (l : Nat), (r : Nat), (k : Nat)⟩ _) (by omega) (by simp; omega) ?_)
                    intro v4 w4 hown4 hgrow4 hat4
                    have HO4 := hid (show w4.ownsRow w.heap.size 46 4 v4 (allTo (E + 1)).length (insV (allTo (E + 1))) by
                      rw [HYE.out, List.length_append]
                      exact hown4)
                    have HB4 := hid (HB3.out.grown hgrow4 (by simp; omega) (fun b hb => (HO3.out.lt b hb).1))
                    clear hown4 hgrow4 hat4 y0 y1 y2 y3
                    go_wp2_with fail
                    go_roundw
                    case rel => exact ⟨k + 1, by omega, by go_num, by rw [HNX.out]; exact HO4, HB4⟩
                    case measure => simp [intOf]; omega
                  · have hv : insValid ⟨(i : Nat), (l : Nat), (r : Nat), (k : Nat)⟩ = false := by simpa using hv
                    have HNE := hid (HN.out hv)
                    rw [hv] at HV
                    clear hv
                    go_wp2_with fail
                    refine (HV.out _).mono ?_
                    rintro e w3 ⟨rfl, hb3⟩
                    have HO3 := hid (own_below HOA.out hb3)
                    have HB3 := hid (HBA.out.trans (hb3.mono HBA.out.size))
                    clear hb3
                    go_wp2_with fail
                    go_roundw
                    case rel => exact ⟨k + 1, by omega, by go_num, by rw [HNX.out, HNE.out]; exact HO3, HB3⟩
                    case measure => simp [intOf]; omega
                · have HK := hid (show (i - 1) * 36 + l * 12 + r * 4 + k = (i - 1) * 36 + l * 12 + (r + 1) * 4 by omega)
                  rw [HK.out] at HO
                  go_wp2_with fail
                  go_roundw
                  case rel => exact ⟨r + 1, by omega, by go_num, HO, HB⟩
                  case measure => simp [intOf]; omega
            · have HK := hid (show (i - 1) * 36 + l * 12 + r * 4 = (i - 1) * 36 + (l + 1) * 12 by omega)
              rw [HK.out] at HO
              go_wp2_with fail
              go_roundw
              case rel => exact ⟨l + 1, by omega, by go_num, HO, HB⟩
              case measure => simp [intOf]; omega
        · have HK := hid (show (i - 1) * 36 + l * 12 = (i + 1 - 1) * 36 by omega)
          rw [HK.out] at HO
          go_wp2_with fail
          go_roundw
          case rel => exact ⟨i + 1, by omega, by omega, by go_num, HO, HB⟩
          case measure => simp [intOf]; omega
    · have HI := hid (show (i - 1) * 36 = 180 by omega)
      rw [HI.out, HALL.out] at HO
      obtain ⟨a1, cap1, rfl, _⟩ := own_shape HO.out
      go_wp2
      go_ret
      exact ⟨_, _, rfl, HO.out, HB.out⟩
end Go.Proofs.YtmeoclkngjboiaaDoor
