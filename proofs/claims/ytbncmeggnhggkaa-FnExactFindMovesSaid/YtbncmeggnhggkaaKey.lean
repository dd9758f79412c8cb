/-
  PROVED HERE: what spec.l3Key and l3Hash do. CONDITIONS: as each theorem states.
-/
import Derived.Test.YtbncmeggnhggkaaSqb
import Derived.Laws.BytesArg
namespace Go.Proofs.Ytbncmeggnhggkaa
open Go.RowKit
set_option linter.unusedVariables false
set_option linter.unusedSimpArgs false

abbrev kbs (xs : List Int) : List Value := xs.map (Value.int .u8)
theorem Try.info_u8 : (Try.prog.info? 5).map (fun i => (i.zero, i.size, i.bytes)) = some (some (.int .u8 0), 1, 1) := by kernel_rfl
/-- The numbers of a state's text. -/
def keyR (b : List (List (Int × Int))) : List Int := b.flatMap fun r => 255 :: flatB r
def keyB (s : St) : List Int := s.pc ++ s.regs ++ s.mem ++ keyR s.buf
theorem keyR_succ {s : St} {k : Nat} (hk : k < s.buf.length) : keyR (s.buf.take (k + 1)) = keyR (s.buf.take k) ++ (255 :: flatB (row4 s k)) := by
  unfold keyR
  rw [List.take_succ_eq_append_getElem hk, List.flatMap_append]
  have e := row4_get hk
  rw [List.getElem?_eq_getElem hk] at e
  rw [Option.some.inj e]
  simp
theorem keyR_take (b : List (List (Int × Int))) (k : Nat) : (keyR (b.take k)).length ≤ (keyR b).length := by
  have e : keyR b = keyR (b.take k) ++ keyR (b.drop k) := by
    unfold keyR
    rw [← List.flatMap_append, List.take_append_drop]
  rw [e, List.length_append]
  omega
theorem keyT_bd {s : St} {k j : Nat} (hk : k < s.buf.length) (hj : j ≤ (row4 s k).length * 2) : (keyR (s.buf.take k)).length + 1 + j ≤ (keyR s.buf).length := by
  have h1 := keyR_take s.buf (k + 1)
  rw [keyR_succ hk, List.length_append, List.length_cons, length_flatB] at h1
  omega
structure KN (s : St) (n0 n1 n2 nb : Nat) : Prop where
  h1 : n0 = s.pc.length
  h2 : n1 = s.regs.length
  h3 : n2 = s.mem.length
  h4 : nb = s.buf.length
/-- The numbers of a state are small. -/
structure SmallS (s : St) : Prop where
  pc : ∀ x ∈ s.pc, IntKind.u8.wrap x = x
  regs : ∀ x ∈ s.regs, IntKind.u8.wrap x = x
  mem : ∀ x ∈ s.mem, IntKind.u8.wrap x = x
  buf : ∀ k, ∀ x ∈ flatB (row4 s k), IntKind.u8.wrap x = x
  len : s.pc.length + s.regs.length + s.mem.length + (keyR s.buf).length ≤ 10000
  pos : 0 < s.mem.length
  nb : s.buf.length ≤ 1000
theorem own_cast {w : World} {base e size n n' : Nat} {v : Value} {cs cs' : List Value} (h : w.ownsRow base e size v n cs) (hn : n' = n) (hc : cs' = cs) : w.ownsRow base e size v n' cs' := by
  subst hn
  subst hc
  exact h
theorem conv_own {w : World} {base g cap : Nat} {xs : List Int} (h : w.ownsRow base 5 1 (.slice (some ⟨g, 0, none⟩) xs.length cap) xs.length (kbs xs)) : (convert 138 9 (.slice (some ⟨g, 0, none⟩) xs.length cap)).run Try.prog w = .ok (.string (strOfNums xs)) w := by
  refine run_convert_bytes_arg w 138 5 Try.underlying138 Try.underlying5 g 0 xs.length cap xs rfl (fun i hi => ?_) 9 Try.underlying9
  rw [Nat.zero_add, h.cellAt i (by omega)]
  simp [List.getD, hi]

set_option maxRecDepth 100000 in
set_option maxHeartbeats 3200000 in
theorem l3Key_c (w : World) (q : Sp) (s : St) (h : RdS w q s) (hs : SmallS s) :
    Calls Try.prog 82 #[q.v s] w fun e w' => e = .returned (.string (strOfNums (keyB s))) ∧ Below w.heap.size w w' := by
  obtain ⟨a0, d0, a1, d1, a2, d2, a3, d3⟩ := q
  have HRD := hid h
  have HSM := hid hs
  have hlen := hs.len
  have hnb := hs.nb
  have hpos := hs.pos
  have HKP := hid (show 0 < (keyB s).length by unfold keyB; rw [List.length_append, List.length_append]; omega)
  obtain ⟨n0, hn0⟩ : ∃ n, n = s.pc.length := ⟨_, rfl⟩
  obtain ⟨n1, hn1⟩ : ∃ n, n = s.regs.length := ⟨_, rfl⟩
  obtain ⟨n2, hn2⟩ : ∃ n, n = s.mem.length := ⟨_, rfl⟩
  obtain ⟨nb, hnn⟩ : ∃ n, n = s.buf.length := ⟨_, rfl⟩
  have HN := hid (KN.mk (s := s) hn0 hn1 hn2 hnn)
  unfold Sp.v
  dsimp only
  rw [← hn0, ← hn1, ← hn2] at hlen
  rw [← hn2] at hpos
  rw [← hnn] at hnb
  rw [← hn0, ← hn1, ← hn2, ← hnn]
  clear hn0 hn1 hn2 hnn h hs
  go_enter Try.func82, Try.ntmps82
  go_wp2_with fail
  have hg1 : ((w.alloc (.cells #[.slice a0 n0 d0, .slice a1 n1 d1, .slice a2 n2 d2, .slice a3 nb d3] 44)).alloc (.cells #[] 5)).heap[w.heap.size]? = some (.cells #[.slice a0 n0 d0, .slice a1 n1 d1, .slice a2 n2 d2, .slice a3 nb d3] 44 (0, 0)) := by
    rw [heap_alloc_old _ _ (by simp)]
    exact heap_alloc_new w _
  have HO1 := hid (own_lit0 (w.alloc (.cells #[.slice a0 n0 d0, .slice a1 n1 d1, .slice a2 n2 d2, .slice a3 nb d3] 44)) (w.heap.size + 1) 5 1 (by simp))
  have hb1 : Below w.heap.size w ((w.alloc (.cells #[.slice a0 n0 d0, .slice a1 n1 d1, .slice a2 n2 d2, .slice a3 nb d3] 44)).alloc (.cells #[] 5)) := ((Below.refl _ _).alloc (Nat.le_refl _) _).alloc (by simp) _
  have hsz1 : ((w.alloc (.cells #[.slice a0 n0 d0, .slice a1 n1 d1, .slice a2 n2 d2, .slice a3 nb d3] 44)).alloc (.cells #[] 5)).heap.size = w.heap.size + 2 := by simp
  rw [show (w.alloc (.cells #[.slice a0 n0 d0, .slice a1 n1 d1, .slice a2 n2 d2, .slice a3 nb d3] 44)).heap.size = w.heap.size + 1 by simp] at HO1
  obtain ⟨w1, hw1⟩ : ∃ w1, w1 = (w.alloc (.cells #[.slice a0 n0 d0, .slice a1 n1 d1, .slice a2 n2 d2, .slice a3 nb d3] 44)).alloc (.cells #[] 5) := ⟨_, rfl⟩
  rw [← hw1] at hg1 HO1 hb1 hsz1 ⊢
  have HB1' := hid (show Below (w.heap.size + 1) w1 w1 from Below.refl _ _)
  have HBB := hid hb1
  have HC := hid (fun wr (hb : Below (w.heap.size + 1) w1 wr) => show (wr.cell? ⟨w.heap.size, 0, none⟩ = some (.slice a0 n0 d0) ∧ wr.cell? ⟨w.heap.size, 1, none⟩ = some (.slice a1 n1 d1) ∧ wr.cell? ⟨w.heap.size, 2, none⟩ = some (.slice a2 n2 d2) ∧ wr.cell? ⟨w.heap.size, 3, none⟩ = some (.slice a3 nb d3)) from by
    have e := fun (i : Nat) => cell_of_row wr w.heap.size i _ _ _ ((hb.block w.heap.size (Nat.lt_succ_self _)).trans hg1)
    exact ⟨e 0, e 1, e 2, e 3⟩)
  clear hw1 hg1 hb1
  go_loopw [3, 4] (fun v i wr => ∃ k : Nat, k ≤ n0 ∧ i = .int .i64 k ∧ Hid (wr.ownsRow (w.heap.size + 1) 5 1 v (0 + k) (kbs ([] ++ s.pc.take k))) ∧ Hid (Below (w.heap.size + 1) w1 wr)) (fun _ i _ => n0 - (intOf i).toNat)
  case atStart => exact ⟨0, Nat.zero_le _, rfl, hid (by simpa using HO1.out), HB1'⟩
  case round =>
    clear HO1 HB1'
    obtain ⟨k, hk, rfl, HO, HB⟩ := hrel
    have hbs := HB.out.size
    obtain ⟨x0, x1, x2, x3⟩ := HC.out _ HB.out
    by_cases hlt : k < n0
    · obtain ⟨b, off, hab, hb, hc⟩ := HRD.out.pc.int k (by rw [← HN.out.h1]; exact hlt)
      have hab : a0 = some ⟨b, off, none⟩ := hab
      subst hab
      obtain ⟨x, hx⟩ : ∃ x, x = s.pc[k]'(by rw [← HN.out.h1]; exact hlt) := ⟨_, rfl⟩
      have HX := hid (show s.pc.take (k + 1) = s.pc.take k ++ [x] from take_snoc (by rw [hx]; exact List.getElem?_eq_getElem _))
      have hwx : IntKind.u8.wrap x = x := HSM.out.pc x (by rw [hx]; exact List.getElem_mem _)
      rw [← hx] at hc
      have hcx := (HB.out.cell (p := ⟨b, off + k, none⟩) (Nat.lt_succ_of_lt hb)).trans ((HBB.out.cell (p := ⟨b, off + k, none⟩) hb).trans hc)
      have HSZ := hid (show w.heap.size + 1 ≤ (wr.alloc (.cells #[.int .u8 x] 5)).heap.size by rw [World.size_alloc]; omega)
      clear hc hx
      go_wp2_with (at_builtin; refine wpList_append_one rfl (.tmp 17) (.tmp 24) 138 rfl (w.heap.size + 1) 5 (.int .u8 0) 1 Try.underlying138 Try.info_u8 rfl _ _ _ rfl (HO.out.alloc _) _ (.int .u8 x) rfl (by simp) rfl (by omega) (by omega) HSZ.out ?_)
      intro v2 w2 hown2 hgrow2
      have HO2 := hid (show w2.ownsRow (w.heap.size + 1) 5 1 v2 (0 + (k + 1)) (kbs ([] ++ s.pc.take (k + 1))) from by
        rw [HX.out]
        exact own_cast hown2 (by omega) (by simp [List.map_take]))
      have HB2 := hid ((HB.out.alloc (by omega) (.cells #[.int .u8 x] 5)).grown hgrow2 (by simp; omega) (fun b hb => (HO.out.lt b hb).1))
      clear hown2 hgrow2
      go_wp2_with fail
      go_roundw
      case rel => exact ⟨k + 1, by omega, by go_num, HO2, HB2⟩
      case measure => simp [intOf]; omega
    · have HO2 := hid (show wr.ownsRow (w.heap.size + 1) 5 1 _ (0 + n0) (kbs ([] ++ s.pc)) from by
        have h := HO.out
        rw [show k = n0 by omega, show s.pc.take n0 = s.pc from List.take_of_length_le (by rw [HN.out.h1]; exact Nat.le_refl _)] at h
        exact h)
      have HB2 := HB
      clear HO HB
      go_wp2_with fail
      go_loopw [3, 5] (fun v i wr => ∃ k : Nat, k ≤ n1 ∧ i = .int .i64 k ∧ Hid (wr.ownsRow (w.heap.size + 1) 5 1 v (0 + n0 + k) (kbs ([] ++ s.pc ++ s.regs.take k))) ∧ Hid (Below (w.heap.size + 1) w1 wr)) (fun _ i _ => n1 - (intOf i).toNat)
      case atStart => exact ⟨0, Nat.zero_le _, rfl, hid (by simpa using HO2.out), HB2⟩
      case round =>
        clear HO2 HB2
        obtain ⟨k, hk, rfl, HO, HB⟩ := hrel
        have hbs := HB.out.size
        obtain ⟨x0, x1, x2, x3⟩ := HC.out _ HB.out
        by_cases hlt : k < n1
        · obtain ⟨b, off, hab, hb, hc⟩ := HRD.out.regs.int k (by rw [← HN.out.h2]; exact hlt)
          have hab : a1 = some ⟨b, off, none⟩ := hab
          subst hab
          obtain ⟨x, hx⟩ : ∃ x, x = s.regs[k]'(by rw [← HN.out.h2]; exact hlt) := ⟨_, rfl⟩
          have HX := hid (show s.regs.take (k + 1) = s.regs.take k ++ [x] from take_snoc (by rw [hx]; exact List.getElem?_eq_getElem _))
          have hwx : IntKind.u8.wrap x = x := HSM.out.regs x (by rw [hx]; exact List.getElem_mem _)
          rw [← hx] at hc
          have hcx := (HB.out.cell (p := ⟨b, off + k, none⟩) (Nat.lt_succ_of_lt hb)).trans ((HBB.out.cell (p := ⟨b, off + k, none⟩) hb).trans hc)
          have HSZ := hid (show w.heap.size + 1 ≤ (wr.alloc (.cells #[.int .u8 x] 5)).heap.size by rw [World.size_alloc]; omega)
          clear hc hx
          go_wp2_with (at_builtin; refine wpList_append_one rfl (.tmp 33) (.tmp 40) 138 rfl (w.heap.size + 1) 5 (.int .u8 0) 1 Try.underlying138 Try.info_u8 rfl _ _ _ rfl (HO.out.alloc _) _ (.int .u8 x) rfl (by simp) rfl (by omega) (by omega) HSZ.out ?_)
          intro v2 w2 hown2 hgrow2
          have HO2 := hid (show w2.ownsRow (w.heap.size + 1) 5 1 v2 (0 + n0 + (k + 1)) (kbs ([] ++ s.pc ++ s.regs.take (k + 1))) from by
            rw [HX.out]
            exact own_cast hown2 (by omega) (by simp [List.map_take]))
          have HB2 := hid ((HB.out.alloc (by omega) (.cells #[.int .u8 x] 5)).grown hgrow2 (by simp; omega) (fun b hb => (HO.out.lt b hb).1))
          clear hown2 hgrow2
          go_wp2_with fail
          go_roundw
          case rel => exact ⟨k + 1, by omega, by go_num, HO2, HB2⟩
          case measure => simp [intOf]; omega
        · have HO3 := hid (show wr.ownsRow (w.heap.size + 1) 5 1 _ (0 + n0 + n1) (kbs ([] ++ s.pc ++ s.regs)) from by
            have h := HO.out
            rw [show k = n1 by omega, show s.regs.take n1 = s.regs from List.take_of_length_le (by rw [HN.out.h2]; exact Nat.le_refl _)] at h
            exact h)
          have HB3 := HB
          clear HO HB
          go_wp2_with fail
          go_loopw [3, 6] (fun v i wr => ∃ k : Nat, k ≤ n2 ∧ i = .int .i64 k ∧ Hid (wr.ownsRow (w.heap.size + 1) 5 1 v (0 + n0 + n1 + k) (kbs ([] ++ s.pc ++ s.regs ++ s.mem.take k))) ∧ Hid (Below (w.heap.size + 1) w1 wr)) (fun _ i _ => n2 - (intOf i).toNat)
          case atStart => exact ⟨0, Nat.zero_le _, rfl, hid (by simpa using HO3.out), HB3⟩
          case round =>
            clear HO3 HB3
            obtain ⟨k, hk, rfl, HO, HB⟩ := hrel
            have hbs := HB.out.size
            obtain ⟨x0, x1, x2, x3⟩ := HC.out _ HB.out
            by_cases hlt : k < n2
            · obtain ⟨b, off, hab, hb, hc⟩ := HRD.out.mem.int k (by rw [← HN.out.h3]; exact hlt)
              have hab : a2 = some ⟨b, off, none⟩ := hab
              subst hab
              obtain ⟨x, hx⟩ : ∃ x, x = s.mem[k]'(by rw [← HN.out.h3]; exact hlt) := ⟨_, rfl⟩
              have HX := hid (show s.mem.take (k + 1) = s.mem.take k ++ [x] from take_snoc (by rw [hx]; exact List.getElem?_eq_getElem _))
              have hwx : IntKind.u8.wrap x = x := HSM.out.mem x (by rw [hx]; exact List.getElem_mem _)
              rw [← hx] at hc
              have hcx := (HB.out.cell (p := ⟨b, off + k, none⟩) (Nat.lt_succ_of_lt hb)).trans ((HBB.out.cell (p := ⟨b, off + k, none⟩) hb).trans hc)
              have HSZ := hid (show w.heap.size + 1 ≤ (wr.alloc (.cells #[.int .u8 x] 5)).heap.size by rw [World.size_alloc]; omega)
              clear hc hx
              go_wp2_with (at_builtin; refine wpList_append_one rfl (.tmp 49) (.tmp 56) 138 rfl (w.heap.size + 1) 5 (.int .u8 0) 1 Try.underlying138 Try.info_u8 rfl _ _ _ rfl (HO.out.alloc _) _ (.int .u8 x) rfl (by simp) rfl (by omega) (by omega) HSZ.out ?_)
              intro v2 w2 hown2 hgrow2
              have HO2 := hid (show w2.ownsRow (w.heap.size + 1) 5 1 v2 (0 + n0 + n1 + (k + 1)) (kbs ([] ++ s.pc ++ s.regs ++ s.mem.take (k + 1))) from by
                rw [HX.out]
                exact own_cast hown2 (by omega) (by simp [List.map_take]))
              have HB2 := hid ((HB.out.alloc (by omega) (.cells #[.int .u8 x] 5)).grown hgrow2 (by simp; omega) (fun b hb => (HO.out.lt b hb).1))
              clear hown2 hgrow2
              go_wp2_with fail
              go_roundw
              case rel => exact ⟨k + 1, by omega, by go_num, HO2, HB2⟩
              case measure => simp [intOf]; omega
            · have HO4 := hid (show wr.ownsRow (w.heap.size + 1) 5 1 _ (0 + n0 + n1 + n2) (kbs ([] ++ s.pc ++ s.regs ++ s.mem)) from by
                have h := HO.out
                rw [show k = n2 by omega, show s.mem.take n2 = s.mem from List.take_of_length_le (by rw [HN.out.h3]; exact Nat.le_refl _)] at h
                exact h)
              have HB4 := HB
              clear HO HB
              go_wp2_with fail
              go_loopw [3, 7, 8] (fun v i _ wr => ∃ k : Nat, k ≤ nb ∧ i = .int .i64 k ∧ Hid (wr.ownsRow (w.heap.size + 1) 5 1 v (0 + n0 + n1 + n2 + (keyR (s.buf.take k)).length) (kbs ([] ++ s.pc ++ s.regs ++ s.mem ++ keyR (s.buf.take k)))) ∧ Hid (Below (w.heap.size + 1) w1 wr)) (fun _ i _ _ => nb - (intOf i).toNat)
              case atStart => exact ⟨0, Nat.zero_le _, rfl, hid (by simpa [keyR] using HO4.out), HB4⟩
              case round =>
                clear HO4 HB4
                obtain ⟨k, hk, rfl, HO, HB⟩ := hrel
                have hbs := HB.out.size
                obtain ⟨x0, x1, x2, x3⟩ := HC.out _ HB.out
                by_cases hlt : k < nb
                · obtain ⟨b, off, r, c, hq, hbl, hcell, hrow, _⟩ := HRD.out.bufAt (b := k) (by rw [← HN.out.h4]; exact hlt)
                  have hq : a3 = some ⟨b, off, none⟩ := hq
                  subst hq
                  have HKT := hid (fun j (hj : j ≤ (row4 s k).length * 2) => keyT_bd (s := s) (k := k) (j := j) (by rw [← HN.out.h4]; exact hlt) hj)
                  have HKE := hid (show keyR (s.buf.take (k + 1)) = keyR (s.buf.take k) ++ (255 :: flatB (row4 s k)) from keyR_succ (by rw [← HN.out.h4]; exact hlt))
                  have HFS := hid (fun x (hx : x ∈ flatB (row4 s k)) => HSM.out.buf k x hx)
                  have HFL := hid (length_flatB (row4 s k))
                  have hb7 := HSM.out.len
                  obtain ⟨F, hF⟩ : ∃ F, F = flatB (row4 s k) := ⟨_, rfl⟩
                  rw [← hF] at HKE HFS HFL hrow
                  have HROW := hid hrow
                  have HCL := hid hcell
                  obtain ⟨l, hl⟩ : ∃ l, l = (row4 s k).length := ⟨_, rfl⟩
                  rw [← hl] at HCL HFL HKT
                  obtain ⟨Q, hQ⟩ : ∃ Q, Q = [] ++ s.pc ++ s.regs ++ s.mem ++ keyR (s.buf.take k) := ⟨_, rfl⟩
                  rw [← hQ] at HO
                  have HQ := hid hQ
                  obtain ⟨ql, hql⟩ : ∃ ql, ql = 0 + n0 + n1 + n2 + (keyR (s.buf.take k)).length := ⟨_, rfl⟩
                  rw [← hql] at HO
                  have hqb : ql + l * 2 + 1 ≤ 100000 := by
                    have := HKT.out (l * 2) (Nat.le_refl _)
                    omega
                  have HQL := hid hql
                  have HSZ := hid (show w.heap.size + 1 ≤ (wr.alloc (.cells #[.int .u8 255] 5)).heap.size by rw [World.size_alloc]; omega)
                  clear hql hQ hl hF hrow hcell
                  go_wp2_with (at_builtin; refine wpList_append_one rfl (.tmp 65) (.tmp 66) 138 rfl (w.heap.size + 1) 5 (.int .u8 0) 1 Try.underlying138 Try.info_u8 rfl _ _ _ rfl (HO.out.alloc _) _ (.int .u8 255) rfl (by simp) rfl (by omega) (by omega) HSZ.out ?_)
                  intro v2 w2 hown2 hgrow2
                  have HO2 := hid (show w2.ownsRow (w.heap.size + 1) 5 1 v2 (ql + 1) (kbs (Q ++ [255])) from by
                    exact own_cast hown2 (by omega) (by simp [List.map_take]))
                  have HB2 := hid ((HB.out.alloc (by omega) (.cells #[.int .u8 255] 5)).grown hgrow2 (by simp; omega) (fun b hb => (HO.out.lt b hb).1))
                  clear hown2 hgrow2 x0 x1 x2 x3
                  go_wp2_with fail
                  go_loopw [3, 8] (fun v i wr => ∃ j : Nat, j ≤ l * 2 ∧ i = .int .i64 j ∧ Hid (wr.ownsRow (w.heap.size + 1) 5 1 v (ql + 1 + j) (kbs (Q ++ [255] ++ F.take j))) ∧ Hid (Below (w.heap.size + 1) w1 wr)) (fun _ i _ => l * 2 - (intOf i).toNat)
                  case atStart => exact ⟨0, Nat.zero_le _, rfl, hid (by simpa using HO2.out), HB2⟩
                  case round =>
                    clear HO2 HB2 HO HB
                    obtain ⟨j, hj, rfl, HO, HB⟩ := hrel
                    have hbs := HB.out.size
                    obtain ⟨x0, x1, x2, x3⟩ := HC.out _ HB.out
                    have hcr := (HB.out.cell (p := ⟨b, off + k, none⟩) (Nat.lt_succ_of_lt hbl)).trans ((HBB.out.cell (p := ⟨b, off + k, none⟩) hbl).trans HCL.out)
                    by_cases hjl : j < l * 2
                    · obtain ⟨b2, off2, hab2, hb2, hc2⟩ := HROW.out.int j (by rw [HFL.out]; exact hjl)
                      subst hab2
                      have hjl' : (j : Int) < (l : Int) * 2 := by omega
                      obtain ⟨x, hx⟩ : ∃ x, x = F[j]'(by rw [HFL.out]; exact hjl) := ⟨_, rfl⟩
                      have HX := hid (show F.take (j + 1) = F.take j ++ [x] from take_snoc (by rw [hx]; exact List.getElem?_eq_getElem _))
                      have hwx : IntKind.u8.wrap x = x := HFS.out x (by rw [hx]; exact List.getElem_mem _)
                      rw [← hx] at hc2
                      have hcx := (HB.out.cell (p := ⟨b2, off2 + j, none⟩) (Nat.lt_succ_of_lt hb2)).trans ((HBB.out.cell (p := ⟨b2, off2 + j, none⟩) hb2).trans hc2)
                      have HSZ := hid (show w.heap.size + 1 ≤ (wr.alloc (.cells #[.int .u8 x] 5)).heap.size by rw [World.size_alloc]; omega)
                      clear hc2 hx
                      go_wp2_with (at_builtin; refine wpList_append_one rfl (.tmp 78) (.tmp 88) 138 rfl (w.heap.size + 1) 5 (.int .u8 0) 1 Try.underlying138 Try.info_u8 rfl _ _ _ rfl (HO.out.alloc _) _ (.int .u8 x) rfl (by simp) rfl (by omega) (by omega) HSZ.out ?_)
                      intro v3 w3 hown3 hgrow3
                      have HO3 := hid (show w3.ownsRow (w.heap.size + 1) 5 1 v3 (ql + 1 + (j + 1)) (kbs (Q ++ [255] ++ F.take (j + 1))) from by
                        rw [HX.out]
                        exact own_cast hown3 (by omega) (by simp [List.map_take]))
                      have HB3 := hid ((HB.out.alloc (by omega) (.cells #[.int .u8 x] 5)).grown hgrow3 (by simp; omega) (fun b hb => (HO.out.lt b hb).1))
                      clear hown3 hgrow3
                      go_wp2_with fail
                      go_roundw
                      case rel => exact ⟨j + 1, by omega, by go_num, HO3, HB3⟩
                      case measure => simp [intOf]; omega
                    · have hjl' : ¬ ((j : Int) < (l : Int) * 2) := by omega
                      have HO5 := hid (show wr.ownsRow (w.heap.size + 1) 5 1 _ (0 + n0 + n1 + n2 + (keyR (s.buf.take (k + 1))).length) (kbs ([] ++ s.pc ++ s.regs ++ s.mem ++ keyR (s.buf.take (k + 1)))) from by
                        have h := HO.out
                        rw [show j = l * 2 by omega, show F.take (l * 2) = F from List.take_of_length_le (by rw [HFL.out]; exact Nat.le_refl _)] at h
                        rw [HKE.out]
                        have e1 : 0 + n0 + n1 + n2 + (keyR (s.buf.take k) ++ (255 :: F)).length = ql + 1 + l * 2 := by
                          rw [List.length_append, List.length_cons, HFL.out, HQL.out]; omega
                        have e2 : [] ++ s.pc ++ s.regs ++ s.mem ++ (keyR (s.buf.take k) ++ (255 :: F)) = Q ++ [255] ++ F := by
                          rw [HQ.out]; simp
                        rw [e1, e2]
                        exact h)
                      clear HO
                      go_wp2_with fail
                      go_roundw
                      case rel => exact ⟨k + 1, by omega, by go_num, HO5, HB⟩
                      case measure => simp [intOf]; omega
                · have HO6 := hid (show wr.ownsRow (w.heap.size + 1) 5 1 _ (keyB s).length (kbs (keyB s)) from by
                    have h := HO.out
                    rw [show k = nb by omega, show s.buf.take nb = s.buf from List.take_of_length_le (by rw [HN.out.h4]; exact Nat.le_refl _)] at h
                    have e1 : 0 + n0 + n1 + n2 + (keyR s.buf).length = (keyB s).length := by
                      unfold keyB
                      rw [List.length_append, List.length_append, List.length_append, HN.out.h1, HN.out.h2, HN.out.h3]; omega
                    have e2 : [] ++ s.pc ++ s.regs ++ s.mem ++ keyR s.buf = keyB s := by simp [keyB]
                    rw [e1, e2] at h
                    exact h)
                  clear HO
                  obtain ⟨a9, c9, rfl, _⟩ := own_shape HO6.out
                  obtain ⟨g9, rfl, hg9, hg9'⟩ := own_some HO6.out HKP.out
                  have HCV := conv_own HO6.out
                  go_wp2_with fail
                  go_ret
                  exact ⟨rfl, HBB.out.trans (HB.out.mono (Nat.le_succ _))⟩
end Go.Proofs.Ytbncmeggnhggkaa
