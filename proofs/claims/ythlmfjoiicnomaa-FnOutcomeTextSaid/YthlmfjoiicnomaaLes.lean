/-
  PROVED HERE: what spec.l4Buffers, l4Place, l4Empty, l4Seen do. what spec.l3Key and l3Hash do. words for a table of texts (a slice of slices of strings) whose blocks are known: what a change of one row does; what spec.l3Hash, l3Found and l3Mark do. what spec.l3Mark and l3Less do. what spec.l3Less does. CONDITIONS: as each theorem states.
-/
import Derived.Test.YthlmfjoiicnomaaBf
import Derived.Test.YthlmfjoiicnomaaSpg
import Derived.Laws.BytesArg
namespace Go.Proofs.Ythlmfjoiicnomaa
open Go.RowKit
set_option linter.unusedVariables false
set_option linter.unusedSimpArgs false

/-- One buffer of a state. -/
theorem RdS.bufAt {w : World} {q : Sp} {s : St} (h : RdS w q s) {b : Nat} (hb : b < s.buf.length) : ∃ (g off : Nat) (r : Option Addr) (c : Nat), q.a3 = some ⟨g, off, none⟩ ∧ g < w.heap.size ∧ w.cell? ⟨g, off + b, none⟩ = some (.slice r ((row4 s b).length * 2) c) ∧ Rd w r (ints (flatB (row4 s b))) ∧ (row4 s b).length * 2 ≤ c := by
  obtain ⟨g, off, r, c, ys, h1, h2, h3, h4, h5, h6⟩ := h.buf.at' b (by simpa using hb)
  rw [List.getElem?_map, row4_get hb] at h3
  simp only [Option.map_some, Option.some.injEq] at h3
  subst h3
  rw [length_flatB] at h4 h6
  exact ⟨g, off, r, c, h1, h2, h4, h5, h6⟩

theorem inBuf_snoc (r : List (Int × Int)) (e : Int × Int) (loc : Int) : inBuf (r ++ [e]) loc = if e.1 = loc then some e.2 else inBuf r loc := by
  unfold inBuf
  rw [List.reverse_append]
  simp only [List.reverse_singleton, List.singleton_append, List.find?_cons]
  by_cases h : e.1 = loc
  · simp [h]
  · have : (e.1 == loc) = false := by simpa using h
    simp [h, this]
theorem inBuf_take {r : List (Int × Int)} {j : Nat} {e : Int × Int} (h : r[j]? = some e) (loc : Int) : inBuf (r.take (j + 1)) loc = if e.1 = loc then some e.2 else inBuf (r.take j) loc := by
  rw [List.take_add_one, h]
  exact inBuf_snoc _ _ _

end Go.Proofs.Ythlmfjoiicnomaa
namespace Go.Proofs.Ythlmfjoiicnomaa
open Go.RowKit
set_option linter.unusedVariables false
set_option linter.unusedSimpArgs false

abbrev kbs (xs : List Int) : List Value := xs.map (Value.int .u8)
theorem Try.info_u8 : (Try.prog.info? 5).map (fun i => (i.zero, i.size, i.bytes)) = some (some (.int .u8 0), 1, 1) := by kernel_rfl
/-- The numbers of a state's text. -/
def keyR (b : List (List (Int × Int))) : List Int := b.flatMap fun r => 255 :: flatB r
def keyB (s : St) : List Int := s.pc ++ s.regs ++ s.mem ++ keyR s.buf
theorem keyR_succ {s : St} {k : Nat} (hk : k < s.buf.length) : keyR (s.buf.take (k + 1)) = keyR (s.buf.take k) ++ (255 :: flatB (row4 s k)) := by
  unfold keyR
  rw [List.take_succ_eq_append_getElem hk, List.flatMap_append]
  have e := row4_get hk
  rw [List.getElem?_eq_getElem hk] at e
  rw [Option.some.inj e]
  simp
theorem keyR_take (b : List (List (Int × Int))) (k : Nat) : (keyR (b.take k)).length ≤ (keyR b).length := by
  have e : keyR b = keyR (b.take k) ++ keyR (b.drop k) := by
    unfold keyR
    rw [← List.flatMap_append, List.take_append_drop]
  rw [e, List.length_append]
  omega
theorem keyT_bd {s : St} {k j : Nat} (hk : k < s.buf.length) (hj : j ≤ (row4 s k).length * 2) : (keyR (s.buf.take k)).length + 1 + j ≤ (keyR s.buf).length := by
  have h1 := keyR_take s.buf (k + 1)
  rw [keyR_succ hk, List.length_append, List.length_cons, length_flatB] at h1
  omega
structure KN (s : St) (n0 n1 n2 nb : Nat) : Prop where
  h1 : n0 = s.pc.length
  h2 : n1 = s.regs.length
  h3 : n2 = s.mem.length
  h4 : nb = s.buf.length
/-- The numbers of a state are small. -/
structure SmallS (s : St) : Prop where
  pc : ∀ x ∈ s.pc, IntKind.u8.wrap x = x
  regs : ∀ x ∈ s.regs, IntKind.u8.wrap x = x
  mem : ∀ x ∈ s.mem, IntKind.u8.wrap x = x
  buf : ∀ k, ∀ x ∈ flatB (row4 s k), IntKind.u8.wrap x = x
  len : s.pc.length + s.regs.length + s.mem.length + (keyR s.buf).length ≤ 10000
  pos : 0 < s.mem.length
  nb : s.buf.length ≤ 1000
theorem own_cast {w : World} {base e size n n' : Nat} {v : Value} {cs cs' : List Value} (h : w.ownsRow base e size v n cs) (hn : n' = n) (hc : cs' = cs) : w.ownsRow base e size v n' cs' := by
  subst hn
  subst hc
  exact h
theorem conv_own {w : World} {base g cap : Nat} {xs : List Int} (h : w.ownsRow base 5 1 (.slice (some ⟨g, 0, none⟩) xs.length cap) xs.length (kbs xs)) : (convert 22 9 (.slice (some ⟨g, 0, none⟩) xs.length cap)).run Try.prog w = .ok (.string (strOfNums xs)) w := by
  refine run_convert_bytes_arg w 22 5 Try.underlying22 Try.underlying5 g 0 xs.length cap xs rfl (fun i hi => ?_) 9 Try.underlying9
  rw [Nat.zero_add, h.cellAt i (by omega)]
  simp [List.getD, hi]

set_option maxRecDepth 100000 in
set_option maxHeartbeats 3200000 in
theorem l3Key_c (w : World) (q : Sp) (s : St) (h : RdS w q s) (hs : SmallS s) :
    Calls Try.prog 97 #[q.v s] w fun e w' => e = .returned (.string (strOfNums (keyB s))) ∧ Below w.heap.size w w' := by
  obtain ⟨a0, d0, a1, d1, a2, d2, a3, d3⟩ := q
  have HRD := hid h
  have HSM := hid hs
  have hlen := hs.len
  have hnb := hs.nb
  have hpos := hs.pos
  have HKP := hid (show 0 < (keyB s).length by unfold keyB; rw [List.length_append, List.length_append]; omega)
  obtain ⟨n0, hn0⟩ : ∃ n, n = s.pc.length := ⟨_, rfl⟩
  obtain ⟨n1, hn1⟩ : ∃ n, n = s.regs.length := ⟨_, rfl⟩
  obtain ⟨n2, hn2⟩ : ∃ n, n = s.mem.length := ⟨_, rfl⟩
  obtain ⟨nb, hnn⟩ : ∃ n, n = s.buf.length := ⟨_, rfl⟩
  have HN := hid (KN.mk (s := s) hn0 hn1 hn2 hnn)
  unfold Sp.v
  dsimp only
  rw [← hn0, ← hn1, ← hn2] at hlen
  rw [← hn2] at hpos
  rw [← hnn] at hnb
  rw [← hn0, ← hn1, ← hn2, ← hnn]
  clear hn0 hn1 hn2 hnn h hs
  go_enter Try.func97, Try.ntmps97
  go_wp2_with fail
  have hg1 : ((w.alloc (.cells #[.slice a0 n0 d0, .slice a1 n1 d1, .slice a2 n2 d2, .slice a3 nb d3] 148)).alloc (.cells #[] 5)).heap[w.heap.size]? = some (.cells #[.slice a0 n0 d0, .slice a1 n1 d1, .slice a2 n2 d2, .slice a3 nb d3] 148 (0, 0)) := by
    rw [heap_alloc_old _ _ (by simp)]
    exact heap_alloc_new w _
  have HO1 := hid (own_lit0 (w.alloc (.cells #[.slice a0 n0 d0, .slice a1 n1 d1, .slice a2 n2 d2, .slice a3 nb d3] 148)) (w.heap.size + 1) 5 1 (by simp))
  have hb1 : Below w.heap.size w ((w.alloc (.cells #[.slice a0 n0 d0, .slice a1 n1 d1, .slice a2 n2 d2, .slice a3 nb d3] 148)).alloc (.cells #[] 5)) := ((Below.refl _ _).alloc (Nat.le_refl _) _).alloc (by simp) _
  have hsz1 : ((w.alloc (.cells #[.slice a0 n0 d0, .slice a1 n1 d1, .slice a2 n2 d2, .slice a3 nb d3] 148)).alloc (.cells #[] 5)).heap.size = w.heap.size + 2 := by simp
  rw [show (w.alloc (.cells #[.slice a0 n0 d0, .slice a1 n1 d1, .slice a2 n2 d2, .slice a3 nb d3] 148)).heap.size = w.heap.size + 1 by simp] at HO1
  obtain ⟨w1, hw1⟩ : ∃ w1, w1 = (w.alloc (.cells #[.slice a0 n0 d0, .slice a1 n1 d1, .slice a2 n2 d2, .slice a3 nb d3] 148)).alloc (.cells #[] 5) := ⟨_, rfl⟩
  rw [← hw1] at hg1 HO1 hb1 hsz1 ⊢
  have HB1' := hid (show Below (w.heap.size + 1) w1 w1 from Below.refl _ _)
  have HBB := hid hb1
  have HC := hid (fun wr (hb : Below (w.heap.size + 1) w1 wr) => show (wr.cell? ⟨w.heap.size, 0, none⟩ = some (.slice a0 n0 d0) ∧ wr.cell? ⟨w.heap.size, 1, none⟩ = some (.slice a1 n1 d1) ∧ wr.cell? ⟨w.heap.size, 2, none⟩ = some (.slice a2 n2 d2) ∧ wr.cell? ⟨w.heap.size, 3, none⟩ = some (.slice a3 nb d3)) from by
    have e := fun (i : Nat) => cell_of_row wr w.heap.size i _ _ _ ((hb.block w.heap.size (Nat.lt_succ_self _)).trans hg1)
    exact ⟨e 0, e 1, e 2, e 3⟩)
  clear hw1 hg1 hb1
  go_loopw [3, 4] (fun v i wr => ∃ k : Nat, k ≤ n0 ∧ i = .int .i64 k ∧ Hid (wr.ownsRow (w.heap.size + 1) 5 1 v (0 + k) (kbs ([] ++ s.pc.take k))) ∧ Hid (Below (w.heap.size + 1) w1 wr)) (fun _ i _ => n0 - (intOf i).toNat)
  case atStart => exact ⟨0, Nat.zero_le _, rfl, hid (by simpa using HO1.out), HB1'⟩
  case round =>
    clear HO1 HB1'
    obtain ⟨k, hk, rfl, HO, HB⟩ := hrel
    have hbs := HB.out.size
    obtain ⟨x0, x1, x2, x3⟩ := HC.out _ HB.out
    by_cases hlt : k < n0
    · obtain ⟨b, off, hab, hb, hc⟩ := HRD.out.pc.int k (by rw [← HN.out.h1]; exact hlt)
      have hab : a0 = some ⟨b, off, none⟩ := hab
      subst hab
      obtain ⟨x, hx⟩ : ∃ x, x = s.pc[k]'(by rw [← HN.out.h1]; exact hlt) := ⟨_, rfl⟩
      have HX := hid (show s.pc.take (k + 1) = s.pc.take k ++ [x] from take_snoc (by rw [hx]; exact List.getElem?_eq_getElem _))
      have hwx : IntKind.u8.wrap x = x := HSM.out.pc x (by rw [hx]; exact List.getElem_mem _)
      rw [← hx] at hc
      have hcx := (HB.out.cell (p := ⟨b, off + k, none⟩) (Nat.lt_succ_of_lt hb)).trans ((HBB.out.cell (p := ⟨b, off + k, none⟩) hb).trans hc)
      have HSZ := hid (show w.heap.size + 1 ≤ (wr.alloc (.cells #[.int .u8 x] 5)).heap.size by rw [World.size_alloc]; omega)
      clear hc hx
      go_wp2_with (at_builtin; refine wpList_append_one rfl (.tmp 17) (.tmp 24) 22 rfl (w.heap.size + 1) 5 (.int .u8 0) 1 Try.underlying22 Try.info_u8 rfl _ _ _ rfl (HO.out.alloc _) _ (.int .u8 x) rfl (by simp) rfl (by omega) (by omega) HSZ.out ?_)
      intro v2 w2 hown2 hgrow2
      have HO2 := hid (show w2.ownsRow (w.heap.size + 1) 5 1 v2 (0 + (k + 1)) (kbs ([] ++ s.pc.take (k + 1))) from by
        rw [HX.out]
        exact own_cast hown2 (by omega) (by simp [List.map_take]))
      have HB2 := hid ((HB.out.alloc (by omega) (.cells #[.int .u8 x] 5)).grown hgrow2 (by simp; omega) (fun b hb => (HO.out.lt b hb).1))
      clear hown2 hgrow2
      go_wp2_with fail
      go_roundw
      case rel => exact ⟨k + 1, by omega, by go_num, HO2, HB2⟩
      case measure => simp [intOf]; omega
    · have HO2 := hid (show wr.ownsRow (w.heap.size + 1) 5 1 _ (0 + n0) (kbs ([] ++ s.pc)) from by
        have h := HO.out
        rw [show k = n0 by omega, show s.pc.take n0 = s.pc from List.take_of_length_le (by rw [HN.out.h1]; exact Nat.le_refl _)] at h
        exact h)
      have HB2 := HB
      clear HO HB
      go_wp2_with fail
      go_loopw [3, 5] (fun v i wr => ∃ k : Nat, k ≤ n1 ∧ i = .int .i64 k ∧ Hid (wr.ownsRow (w.heap.size + 1) 5 1 v (0 + n0 + k) (kbs ([] ++ s.pc ++ s.regs.take k))) ∧ Hid (Below (w.heap.size + 1) w1 wr)) (fun _ i _ => n1 - (intOf i).toNat)
      case atStart => exact ⟨0, Nat.zero_le _, rfl, hid (by simpa using HO2.out), HB2⟩
      case round =>
        clear HO2 HB2
        obtain ⟨k, hk, rfl, HO, HB⟩ := hrel
        have hbs := HB.out.size
        obtain ⟨x0, x1, x2, x3⟩ := HC.out _ HB.out
        by_cases hlt : k < n1
        · obtain ⟨b, off, hab, hb, hc⟩ := HRD.out.regs.int k (by rw [← HN.out.h2]; exact hlt)
          have hab : a1 = some ⟨b, off, none⟩ := hab
          subst hab
          obtain ⟨x, hx⟩ : ∃ x, x = s.regs[k]'(by rw [← HN.out.h2]; exact hlt) := ⟨_, rfl⟩
          have HX := hid (show s.regs.take (k + 1) = s.regs.take k ++ [x] from take_snoc (by rw [hx]; exact List.getElem?_eq_getElem _))
          have hwx : IntKind.u8.wrap x = x := HSM.out.regs x (by rw [hx]; exact List.getElem_mem _)
          rw [← hx] at hc
          have hcx := (HB.out.cell (p := ⟨b, off + k, none⟩) (Nat.lt_succ_of_lt hb)).trans ((HBB.out.cell (p := ⟨b, off + k, none⟩) hb).trans hc)
          have HSZ := hid (show w.heap.size + 1 ≤ (wr.alloc (.cells #[.int .u8 x] 5)).heap.size by rw [World.size_alloc]; omega)
          clear hc hx
          go_wp2_with (at_builtin; refine wpList_append_one rfl (.tmp 33) (.tmp 40) 22 rfl (w.heap.size + 1) 5 (.int .u8 0) 1 Try.underlying22 Try.info_u8 rfl _ _ _ rfl (HO.out.alloc _) _ (.int .u8 x) rfl (by simp) rfl (by omega) (by omega) HSZ.out ?_)
          intro v2 w2 hown2 hgrow2
          have HO2 := hid (show w2.ownsRow (w.heap.size + 1) 5 1 v2 (0 + n0 + (k + 1)) (kbs ([] ++ s.pc ++ s.regs.take (k + 1))) from by
            rw [HX.out]
            exact own_cast hown2 (by omega) (by simp [List.map_take]))
          have HB2 := hid ((HB.out.alloc (by omega) (.cells #[.int .u8 x] 5)).grown hgrow2 (by simp; omega) (fun b hb => (HO.out.lt b hb).1))
          clear hown2 hgrow2
          go_wp2_with fail
          go_roundw
          case rel => exact ⟨k + 1, by omega, by go_num, HO2, HB2⟩
          case measure => simp [intOf]; omega
        · have HO3 := hid (show wr.ownsRow (w.heap.size + 1) 5 1 _ (0 + n0 + n1) (kbs ([] ++ s.pc ++ s.regs)) from by
            have h := HO.out
            rw [show k = n1 by omega, show s.regs.take n1 = s.regs from List.take_of_length_le (by rw [HN.out.h2]; exact Nat.le_refl _)] at h
            exact h)
          have HB3 := HB
          clear HO HB
          go_wp2_with fail
          go_loopw [3, 6] (fun v i wr => ∃ k : Nat, k ≤ n2 ∧ i = .int .i64 k ∧ Hid (wr.ownsRow (w.heap.size + 1) 5 1 v (0 + n0 + n1 + k) (kbs ([] ++ s.pc ++ s.regs ++ s.mem.take k))) ∧ Hid (Below (w.heap.size + 1) w1 wr)) (fun _ i _ => n2 - (intOf i).toNat)
          case atStart => exact ⟨0, Nat.zero_le _, rfl, hid (by simpa using HO3.out), HB3⟩
          case round =>
            clear HO3 HB3
            obtain ⟨k, hk, rfl, HO, HB⟩ := hrel
            have hbs := HB.out.size
            obtain ⟨x0, x1, x2, x3⟩ := HC.out _ HB.out
            by_cases hlt : k < n2
            · obtain ⟨b, off, hab, hb, hc⟩ := HRD.out.mem.int k (by rw [← HN.out.h3]; exact hlt)
              have hab : a2 = some ⟨b, off, none⟩ := hab
              subst hab
              obtain ⟨x, hx⟩ : ∃ x, x = s.mem[k]'(by rw [← HN.out.h3]; exact hlt) := ⟨_, rfl⟩
              have HX := hid (show s.mem.take (k + 1) = s.mem.take k ++ [x] from take_snoc (by rw [hx]; exact List.getElem?_eq_getElem _))
              have hwx : IntKind.u8.wrap x = x := HSM.out.mem x (by rw [hx]; exact List.getElem_mem _)
              rw [← hx] at hc
              have hcx := (HB.out.cell (p := ⟨b, off + k, none⟩) (Nat.lt_succ_of_lt hb)).trans ((HBB.out.cell (p := ⟨b, off + k, none⟩) hb).trans hc)
              have HSZ := hid (show w.heap.size + 1 ≤ (wr.alloc (.cells #[.int .u8 x] 5)).heap.size by rw [World.size_alloc]; omega)
              clear hc hx
              go_wp2_with (at_builtin; refine wpList_append_one rfl (.tmp 49) (.tmp 56) 22 rfl (w.heap.size + 1) 5 (.int .u8 0) 1 Try.underlying22 Try.info_u8 rfl _ _ _ rfl (HO.out.alloc _) _ (.int .u8 x) rfl (by simp) rfl (by omega) (by omega) HSZ.out ?_)
              intro v2 w2 hown2 hgrow2
              have HO2 := hid (show w2.ownsRow (w.heap.size + 1) 5 1 v2 (0 + n0 + n1 + (k + 1)) (kbs ([] ++ s.pc ++ s.regs ++ s.mem.take (k + 1))) from by
                rw [HX.out]
                exact own_cast hown2 (by omega) (by simp [List.map_take]))
              have HB2 := hid ((HB.out.alloc (by omega) (.cells #[.int .u8 x] 5)).grown hgrow2 (by simp; omega) (fun b hb => (HO.out.lt b hb).1))
              clear hown2 hgrow2
              go_wp2_with fail
              go_roundw
              case rel => exact ⟨k + 1, by omega, by go_num, HO2, HB2⟩
              case measure => simp [intOf]; omega
            · have HO4 := hid (show wr.ownsRow (w.heap.size + 1) 5 1 _ (0 + n0 + n1 + n2) (kbs ([] ++ s.pc ++ s.regs ++ s.mem)) from by
                have h := HO.out
                rw [show k = n2 by omega, show s.mem.take n2 = s.mem from List.take_of_length_le (by rw [HN.out.h3]; exact Nat.le_refl _)] at h
                exact h)
              have HB4 := HB
              clear HO HB
              go_wp2_with fail
              go_loopw [3, 7, 8] (fun v i _ wr => ∃ k : Nat, k ≤ nb ∧ i = .int .i64 k ∧ Hid (wr.ownsRow (w.heap.size + 1) 5 1 v (0 + n0 + n1 + n2 + (keyR (s.buf.take k)).length) (kbs ([] ++ s.pc ++ s.regs ++ s.mem ++ keyR (s.buf.take k)))) ∧ Hid (Below (w.heap.size + 1) w1 wr)) (fun _ i _ _ => nb - (intOf i).toNat)
              case atStart => exact ⟨0, Nat.zero_le _, rfl, hid (by simpa [keyR] using HO4.out), HB4⟩
              case round =>
                clear HO4 HB4
                obtain ⟨k, hk, rfl, HO, HB⟩ := hrel
                have hbs := HB.out.size
                obtain ⟨x0, x1, x2, x3⟩ := HC.out _ HB.out
                by_cases hlt : k < nb
                · obtain ⟨b, off, r, c, hq, hbl, hcell, hrow, _⟩ := HRD.out.bufAt (b := k) (by rw [← HN.out.h4]; exact hlt)
                  have hq : a3 = some ⟨b, off, none⟩ := hq
                  subst hq
                  have HKT := hid (fun j (hj : j ≤ (row4 s k).length * 2) => keyT_bd (s := s) (k := k) (j := j) (by rw [← HN.out.h4]; exact hlt) hj)
                  have HKE := hid (show keyR (s.buf.take (k + 1)) = keyR (s.buf.take k) ++ (255 :: flatB (row4 s k)) from keyR_succ (by rw [← HN.out.h4]; exact hlt))
                  have HFS := hid (fun x (hx : x ∈ flatB (row4 s k)) => HSM.out.buf k x hx)
                  have HFL := hid (length_flatB (row4 s k))
                  have hb7 := HSM.out.len
                  obtain ⟨F, hF⟩ : ∃ F, F = flatB (row4 s k) := ⟨_, rfl⟩
                  rw [← hF] at HKE HFS HFL hrow
                  have HROW := hid hrow
                  have HCL := hid hcell
                  obtain ⟨l, hl⟩ : ∃ l, l = (row4 s k).length := ⟨_, rfl⟩
                  rw [← hl] at HCL HFL HKT
                  obtain ⟨Q, hQ⟩ : ∃ Q, Q = [] ++ s.pc ++ s.regs ++ s.mem ++ keyR (s.buf.take k) := ⟨_, rfl⟩
                  rw [← hQ] at HO
                  have HQ := hid hQ
                  obtain ⟨ql, hql⟩ : ∃ ql, ql = 0 + n0 + n1 + n2 + (keyR (s.buf.take k)).length := ⟨_, rfl⟩
                  rw [← hql] at HO
                  have hqb : ql + l * 2 + 1 ≤ 100000 := by
                    have := HKT.out (l * 2) (Nat.le_refl _)
                    omega
                  have HQL := hid hql
                  have HSZ := hid (show w.heap.size + 1 ≤ (wr.alloc (.cells #[.int .u8 255] 5)).heap.size by rw [World.size_alloc]; omega)
                  clear hql hQ hl hF hrow hcell
                  go_wp2_with (at_builtin; refine wpList_append_one rfl (.tmp 65) (.tmp 66) 22 rfl (w.heap.size + 1) 5 (.int .u8 0) 1 Try.underlying22 Try.info_u8 rfl _ _ _ rfl (HO.out.alloc _) _ (.int .u8 255) rfl (by simp) rfl (by omega) (by omega) HSZ.out ?_)
                  intro v2 w2 hown2 hgrow2
                  have HO2 := hid (show w2.ownsRow (w.heap.size + 1) 5 1 v2 (ql + 1) (kbs (Q ++ [255])) from by
                    exact own_cast hown2 (by omega) (by simp [List.map_take]))
                  have HB2 := hid ((HB.out.alloc (by omega) (.cells #[.int .u8 255] 5)).grown hgrow2 (by simp; omega) (fun b hb => (HO.out.lt b hb).1))
                  clear hown2 hgrow2 x0 x1 x2 x3
                  go_wp2_with fail
                  go_loopw [3, 8] (fun v i wr => ∃ j : Nat, j ≤ l * 2 ∧ i = .int .i64 j ∧ Hid (wr.ownsRow (w.heap.size + 1) 5 1 v (ql + 1 + j) (kbs (Q ++ [255] ++ F.take j))) ∧ Hid (Below (w.heap.size + 1) w1 wr)) (fun _ i _ => l * 2 - (intOf i).toNat)
                  case atStart => exact ⟨0, Nat.zero_le _, rfl, hid (by simpa using HO2.out), HB2⟩
                  case round =>
                    clear HO2 HB2 HO HB
                    obtain ⟨j, hj, rfl, HO, HB⟩ := hrel
                    have hbs := HB.out.size
                    obtain ⟨x0, x1, x2, x3⟩ := HC.out _ HB.out
                    have hcr := (HB.out.cell (p := ⟨b, off + k, none⟩) (Nat.lt_succ_of_lt hbl)).trans ((HBB.out.cell (p := ⟨b, off + k, none⟩) hbl).trans HCL.out)
                    by_cases hjl : j < l * 2
                    · obtain ⟨b2, off2, hab2, hb2, hc2⟩ := HROW.out.int j (by rw [HFL.out]; exact hjl)
                      subst hab2
                      have hjl' : (j : Int) < (l : Int) * 2 := by omega
                      obtain ⟨x, hx⟩ : ∃ x, x = F[j]'(by rw [HFL.out]; exact hjl) := ⟨_, rfl⟩
                      have HX := hid (show F.take (j + 1) = F.take j ++ [x] from take_snoc (by rw [hx]; exact List.getElem?_eq_getElem _))
                      have hwx : IntKind.u8.wrap x = x := HFS.out x (by rw [hx]; exact List.getElem_mem _)
                      rw [← hx] at hc2
                      have hcx := (HB.out.cell (p := ⟨b2, off2 + j, none⟩) (Nat.lt_succ_of_lt hb2)).trans ((HBB.out.cell (p := ⟨b2, off2 + j, none⟩) hb2).trans hc2)
                      have HSZ := hid (show w.heap.size + 1 ≤ (wr.alloc (.cells #[.int .u8 x] 5)).heap.size by rw [World.size_alloc]; omega)
                      clear hc2 hx
                      go_wp2_with (at_builtin; refine wpList_append_one rfl (.tmp 78) (.tmp 88) 22 rfl (w.heap.size + 1) 5 (.int .u8 0) 1 Try.underlying22 Try.info_u8 rfl _ _ _ rfl (HO.out.alloc _) _ (.int .u8 x) rfl (by simp) rfl (by omega) (by omega) HSZ.out ?_)
                      intro v3 w3 hown3 hgrow3
                      have HO3 := hid (show w3.ownsRow (w.heap.size + 1) 5 1 v3 (ql + 1 + (j + 1)) (kbs (Q ++ [255] ++ F.take (j + 1))) from by
                        rw [HX.out]
                        exact own_cast hown3 (by omega) (by simp [List.map_take]))
                      have HB3 := hid ((HB.out.alloc (by omega) (.cells #[.int .u8 x] 5)).grown hgrow3 (by simp; omega) (fun b hb => (HO.out.lt b hb).1))
                      clear hown3 hgrow3
                      go_wp2_with fail
                      go_roundw
                      case rel => exact ⟨j + 1, by omega, by go_num, HO3, HB3⟩
                      case measure => simp [intOf]; omega
                    · have hjl' : ¬ ((j : Int) < (l : Int) * 2) := by omega
                      have HO5 := hid (show wr.ownsRow (w.heap.size + 1) 5 1 _ (0 + n0 + n1 + n2 + (keyR (s.buf.take (k + 1))).length) (kbs ([] ++ s.pc ++ s.regs ++ s.mem ++ keyR (s.buf.take (k + 1)))) from by
                        have h := HO.out
                        rw [show j = l * 2 by omega, show F.take (l * 2) = F from List.take_of_length_le (by rw [HFL.out]; exact Nat.le_refl _)] at h
                        rw [HKE.out]
                        have e1 : 0 + n0 + n1 + n2 + (keyR (s.buf.take k) ++ (255 :: F)).length = ql + 1 + l * 2 := by
                          rw [List.length_append, List.length_cons, HFL.out, HQL.out]; omega
                        have e2 : [] ++ s.pc ++ s.regs ++ s.mem ++ (keyR (s.buf.take k) ++ (255 :: F)) = Q ++ [255] ++ F := by
                          rw [HQ.out]; simp
                        rw [e1, e2]
                        exact h)
                      clear HO
                      go_wp2_with fail
                      go_roundw
                      case rel => exact ⟨k + 1, by omega, by go_num, HO5, HB⟩
                      case measure => simp [intOf]; omega
                · have HO6 := hid (show wr.ownsRow (w.heap.size + 1) 5 1 _ (keyB s).length (kbs (keyB s)) from by
                    have h := HO.out
                    rw [show k = nb by omega, show s.buf.take nb = s.buf from List.take_of_length_le (by rw [HN.out.h4]; exact Nat.le_refl _)] at h
                    have e1 : 0 + n0 + n1 + n2 + (keyR s.buf).length = (keyB s).length := by
                      unfold keyB
                      rw [List.length_append, List.length_append, List.length_append, HN.out.h1, HN.out.h2, HN.out.h3]; omega
                    have e2 : [] ++ s.pc ++ s.regs ++ s.mem ++ keyR s.buf = keyB s := by simp [keyB]
                    rw [e1, e2] at h
                    exact h)
                  clear HO
                  obtain ⟨a9, c9, rfl, _⟩ := own_shape HO6.out
                  obtain ⟨g9, rfl, hg9, hg9'⟩ := own_some HO6.out HKP.out
                  have HCV := conv_own HO6.out
                  go_wp2_with fail
                  go_ret
                  exact ⟨rfl, HBB.out.trans (HB.out.mono (Nat.le_succ _))⟩
end Go.Proofs.Ythlmfjoiicnomaa
namespace Go.Proofs.Ythlmfjoiicnomaa
open Go.RowKit
set_option linter.unusedVariables false
set_option linter.unusedSimpArgs false

theorem Try.info_txt : (Try.prog.info? 9).map (fun i => (i.zero, i.size, i.bytes)) = some (some (.string ⟨#[]⟩), 1, 16) := by kernel_rfl
abbrev strs (xs : List ByteArray) : List Value := xs.map Value.string
/-- A row of texts of the call's own. -/
def OwTx (w : World) (a : Option Addr) (cap : Nat) (xs : List ByteArray) : Prop := w.ownsRow 0 9 1 (.slice a xs.length cap) xs.length (strs xs)
def rowsT (rs : List (Option Addr × Nat)) (p : List (List ByteArray)) : List Value := List.zipWith (fun r xs => Value.slice r.1 xs.length r.2) rs p
theorem rowsT_get {rs : List (Option Addr × Nat)} {p : List (List ByteArray)} {k : Nat} {r : Option Addr × Nat} {xs : List ByteArray} (h1 : rs[k]? = some r) (h2 : p[k]? = some xs) : (rowsT rs p)[k]? = some (.slice r.1 xs.length r.2) := by
  unfold rowsT
  simp [List.getElem?_zipWith, h1, h2]
theorem rowsT_set {rs : List (Option Addr × Nat)} {p : List (List ByteArray)} (hl : rs.length = p.length) (i : Nat) (r : Option Addr × Nat) (ys : List ByteArray) : (rowsT rs p).set i (.slice r.1 ys.length r.2) = rowsT (rs.set i r) (p.set i ys) := by
  apply List.ext_getElem?
  intro j
  unfold rowsT
  rw [List.getElem?_set]
  by_cases hij : i = j
  · subst hij
    by_cases hi : i < p.length
    · simp [hi, hl]
    · simp [hi, hl]
  · rw [if_neg hij]
    simp only [List.getElem?_zipWith, List.getElem?_set, if_neg hij]
/-- The table p, from block g on; its rows lie in blocks of S. -/
def Tab (w : World) (g : Nat) (S : Nat → Prop) (p : List (List ByteArray)) : Prop :=
  ∃ (rs : List (Option Addr × Nat)) (cap : Nat), rs.length = p.length ∧ w.ownsRow 0 89 1 (.slice (some ⟨g, 0, none⟩) p.length cap) p.length (rowsT rs p) ∧ (∀ (k : Nat) r xs, rs[k]? = some r → p[k]? = some xs → OwTx w r.1 r.2 xs) ∧
    (∀ (i k : Nat) r s b, rs[i]? = some r → rs[k]? = some s → blk r.1 = some b → blk s.1 = some b → i = k) ∧ (∀ (k : Nat) r b, rs[k]? = some r → blk r.1 = some b → S b) ∧ S g
theorem Tab.keeps {w w' : World} {g : Nat} {S R : Nat → Prop} {p : List (List ByteArray)} (h : Tab w g S p) (hk : Keeps R w w') (hR : ∀ b, S b → ¬ R b) : Tab w' g S p := by
  obtain ⟨rs, cap, hl, ho, hi, hd, hS, hg⟩ := h
  exact ⟨rs, cap, hl, own_keeps ho hk (fun b hb => by simp only [blk, Option.some.injEq] at hb; rw [← hb]; exact hR g hg), fun k r xs h1 h2 => own_keeps (hi k r xs h1 h2) hk (fun b hb => hR b (hS k r b h1 hb)), hd, hS, hg⟩
theorem Tab.below {w w' : World} {g : Nat} {S : Nat → Prop} {p : List (List ByteArray)} (h : Tab w g S p) (hb : Below w.heap.size w w') : Tab w' g S p :=
  h.keeps (R := fun _ => False) (Keeps.of_below hb) fun _ _ e => e
theorem Tab.lt {w : World} {g : Nat} {S : Nat → Prop} {p : List (List ByteArray)} (h : Tab w g S p) : g < w.heap.size := by
  obtain ⟨rs, cap, hl, ho, _⟩ := h
  exact (own_blk ho g rfl).2
/-- One row of the table: where it lies; and what a store of a row makes of the table. -/
theorem Tab.row {w : World} {g : Nat} {S : Nat → Prop} {p : List (List ByteArray)} (h : Tab w g S p) {i : Nat} {xs : List ByteArray} (hx : p[i]? = some xs) :
    ∃ r c, w.cell? ⟨g, i, none⟩ = some (.slice r xs.length c) ∧ OwTx w r c xs ∧ (∀ b, blk r = some b → S b ∧ b ≠ g) ∧
      ∀ (w' : World) (v' : Value) (ys : List ByteArray), Keeps (fun b => blk r = some b) w w' → w'.ownsRow 0 9 1 v' ys.length (strs ys) → (v'.ownBlock = blk r ∨ ∀ b, v'.ownBlock = some b → ∀ k, S k → k < w.heap.size → b ≠ k) →
        w'.cell? ⟨g, i, none⟩ = some (.slice r xs.length c) ∧ w'.frozen? ⟨g, i, none⟩ = false ∧ Tab (w'.setCell ⟨g, i, none⟩ v') g (fun b => S b ∨ v'.ownBlock = some b) (p.set i ys) := by
  obtain ⟨rs, cap, hl, ho, hi, hd, hS, hg⟩ := h
  have hip := (List.getElem?_eq_some_iff.1 hx).1
  have hgs := (own_blk ho g rfl).2
  obtain ⟨r, hr⟩ : ∃ r, rs[i]? = some r := ⟨_, List.getElem?_eq_getElem (by omega)⟩
  have hrow := hi i r xs hr hx
  have hne : ∀ (k : Nat) s ys, rs[k]? = some s → p[k]? = some ys → ∀ b, blk s.1 = some b → b ≠ g := fun k s ys hs hy b hb e => own_apart (hi k s ys hs hy) ho (by decide) b hb (by rw [e]; rfl)
  have hcell : w.cell? ⟨g, i, none⟩ = some (.slice r.1 xs.length r.2) := (ho.cellAt i (by omega)).trans (rowsT_get hr hx)
  refine ⟨r.1, r.2, hcell, hrow, fun b hb => ⟨hS i r b hr hb, hne i r xs hr hx b hb⟩, ?_⟩
  intro w' v' ys hk hown hblk
  have hSg : ¬ blk r.1 = some g := fun hs => hne i r xs hr hx g hs rfl
  have ho' := own_keeps ho hk (fun b hb => by cases hb; exact hSg)
  obtain ⟨a', c', rfl, hab⟩ := own_shape hown
  rw [ownBlock_slice] at hblk ⊢
  have hag : ∀ b, blk a' = some b → b ≠ g := fun b hb e => by
    rcases hblk with hq | hq
    · exact hne i r xs hr hx b (by rw [← hq]; exact hb) e
    · exact hq b hb g hg hgs e
  have kset : Keeps (· = g) w' (w'.setCell ⟨g, i, none⟩ (.slice a' ys.length c')) := Keeps.setCell w' ⟨g, i, none⟩ _
  have hget : ∀ (k : Nat) s zs, (rs.set i (a', c'))[k]? = some s → (p.set i ys)[k]? = some zs → (k = i ∧ s = (a', c') ∧ zs = ys) ∨ (k ≠ i ∧ rs[k]? = some s ∧ p[k]? = some zs) := by
    intro k s zs hs hz
    by_cases hki : i = k
    · subst hki
      rw [List.getElem?_set_self (by omega)] at hs
      rw [List.getElem?_set_self hip] at hz
      cases hs; cases hz
      exact .inl ⟨rfl, rfl, rfl⟩
    · rw [List.getElem?_set_ne hki] at hs
      rw [List.getElem?_set_ne hki] at hz
      exact .inr ⟨fun e => hki e.symm, hs, hz⟩
  have hlen : (rs.set i (a', c')).length = (p.set i ys).length := by simp [hl]
  have get1 : ∀ (k : Nat) s, (rs.set i (a', c'))[k]? = some s → (k = i ∧ s = (a', c')) ∨ (k ≠ i ∧ rs[k]? = some s) := fun k s hs => by
    rcases hget k s _ hs (List.getElem?_eq_getElem (by rw [← hlen]; exact (List.getElem?_eq_some_iff.1 hs).1)) with ⟨q1, q2, _⟩ | ⟨q1, q2, _⟩
    · exact .inl ⟨q1, q2⟩
    · exact .inr ⟨q1, q2⟩
  have rlt : ∀ (k : Nat) s b, rs[k]? = some s → blk s.1 = some b → b < w.heap.size := fun k s b hs hb =>
    (own_blk (hi k s _ hs (List.getElem?_eq_getElem (by rw [← hl]; exact (List.getElem?_eq_some_iff.1 hs).1))) b hb).2
  have new : ∀ (k : Nat) s b, k ≠ i → rs[k]? = some s → blk s.1 = some b → blk a' = some b → False := fun k s b hki hs hb hb' => by
    rcases hblk with hq | hq
    · exact hki (hd k i s r b hs hr hb (by rw [← hq]; exact hb'))
    · exact hq b hb' b (hS k s b hs hb) (rlt k s b hs hb) rfl
  refine ⟨(ho'.cellAt i (by omega)).trans (rowsT_get hr hx), ho'.frozenAt i, rs.set i (a', c'), cap, hlen, ?_, ?_, ?_, ?_, .inl hg⟩
  · have := (ho'.stored i (.slice a' ys.length c')).1
    rw [rowsT_set hl i (a', c') ys] at this
    simpa using this
  · intro k s zs hs hz
    rcases hget k s zs hs hz with ⟨_, rfl, rfl⟩ | ⟨hki, q2, q3⟩
    · exact own_keeps hown kset fun b hb e => hag b hb e
    · have hr' := hi k s zs q2 q3
      refine own_keeps (own_keeps hr' hk fun b hb hs' => ?_) kset fun b hb e => hne k s zs q2 q3 b hb e
      exact hki (hd k i s r b q2 hr hb hs')
  · intro j k s t b hs ht hbs hbt
    rcases get1 j s hs with ⟨q1, rfl⟩ | ⟨q1, q2⟩ <;> rcases get1 k t ht with ⟨q3, rfl⟩ | ⟨q3, q4⟩
    · omega
    · exact absurd hbs (fun hb => new k t b q3 q4 hbt hb)
    · exact absurd hbt (fun hb => new j s b q1 q2 hbs hb)
    · exact hd j k s t b q2 q4 hbs hbt
  · intro k s b hs hb
    rcases get1 k s hs with ⟨_, rfl⟩ | ⟨_, q2⟩
    · exact .inr hb
    · exact .inl (hS k s b q2 hb)
/-- The number for a text. -/
def hashTo (s : ByteArray) : Nat → Nat
  | 0 => 0
  | k + 1 => (hashTo s k * 31 + (if h : k < s.size then s[k].toNat else 0)) % 4096
def hashS (s : ByteArray) : Nat := hashTo s s.size
theorem hashTo_lt (s : ByteArray) (k : Nat) : hashTo s k < 4096 := by
  cases k with
  | zero => show 0 < 4096; decide
  | succ k => exact Nat.mod_lt _ (by decide)
set_option maxHeartbeats 1600000 in
theorem l3Hash_c (w : World) (s : ByteArray) (hs : s.size ≤ 1000000) :
    Calls Try.prog 107 #[.string s] w fun e w' => e = .returned (.int .i64 (hashS s : Nat)) ∧ w' = w := by
  have HST := hid (fun k (hk : k < s.size) => show ((hashTo s (k + 1) : Nat) : Int) = ((hashTo s k : Nat) * 31 + (s[k].toNat : Nat)) % 4096 from by
    show ((((hashTo s k * 31 + (if h : k < s.size then s[k].toNat else 0)) % 4096 : Nat)) : Int) = _
    rw [dif_pos hk]
    omega)
  have HLT := hid (hashTo_lt s)
  unfold hashS
  go_enter Try.func107, Try.ntmps107
  go_wp2_with fail
  go_loop [3, 4] (fun n i => ∃ k : Nat, k ≤ s.size ∧ i = .int .i64 k ∧ n = .int .i64 (hashTo s k : Nat)) (fun n i => s.size - (intOf i).toNat)
  case atStart => exact ⟨0, Nat.zero_le _, rfl, rfl⟩
  case round =>
    obtain ⟨k, hk, rfl, rfl⟩ := hrel
    have hh := HLT.out k
    by_cases hlt : k < s.size
    · have HS := hid (HST.out k hlt)
      have hb255 : (s[k].toNat : Int) ≤ 255 := by have := s[k].toNat_lt; omega
      obtain ⟨h, hhe⟩ : ∃ h, h = hashTo s k := ⟨_, rfl⟩
      rw [← hhe] at hh HS ⊢
      clear hhe
      go_wp2_with fail
      go_round
      case rel => exact ⟨k + 1, by omega, by go_num, by rw [HS.out]⟩
      case measure => simp [intOf]; omega
    · have hk' : k = s.size := by omega
      go_wp2_with fail
      go_ret
      exact ⟨rfl, rfl⟩
def hasT (xs : List ByteArray) (t : ByteArray) : Bool := xs.any fun x => x.data == t.data
def foundT (p : List (List ByteArray)) (t : ByteArray) : Bool := hasT (p.getD (hashS t) []) t
def markT (p : List (List ByteArray)) (t : ByteArray) : List (List ByteArray) := p.set (hashS t) (p.getD (hashS t) [] ++ [t])
theorem row_get {p : List (List ByteArray)} {k : Nat} (h : k < p.length) : p[k]? = some (p.getD k []) := by
  rw [List.getD_eq_getElem?_getD, List.getElem?_eq_getElem h]
  rfl
theorem ne_txt {a b : ByteArray} (h : a ≠ b) : (a.toList == b.toList) = false := by
  cases hb : (a.toList == b.toList) with
  | false => rfl
  | true =>
    exfalso
    have e := eq_of_beq hb
    rw [ByteArray.toList_eq, ByteArray.toList_eq] at e
    exact h (ByteArray.ext (Array.toList_inj.1 e))
theorem OwTx.at {w : World} {a : Option Addr} {c : Nat} {xs : List ByteArray} (h : OwTx w a c xs) (k : Nat) (hk : k < xs.length) : ∃ b, a = some ⟨b, 0, none⟩ ∧ w.cell? ⟨b, k, none⟩ = some (.string xs[k]) := by
  obtain ⟨b, hb, _, _⟩ := own_some h (by omega)
  subst hb
  refine ⟨b, rfl, ?_⟩
  rw [h.cellAt k (by omega)]
  simp

set_option maxRecDepth 100000 in
set_option maxHeartbeats 1600000 in
theorem l3Found_c (w : World) (g : Nat) (S : Nat → Prop) (p : List (List ByteArray)) (t : ByteArray) (h : Tab w g S p) (hp : p.length = 4096) (ht : t.size ≤ 1000000) (hn : (p.getD (hashS t) []).length ≤ 8000000000000) :
    Calls Try.prog 102 #[.slice (some ⟨g, 0, none⟩) 4096 4096, .string t] w fun e w' => e = .returned (.bool (foundT p t)) ∧ w' = w := by
  have hlt := hashTo_lt t t.size
  obtain ⟨r, c, hc, hrow, _⟩ := h.row (row_get (p := p) (k := hashS t) (by rw [hp]; exact hlt))
  have HH := hid (fun w => l3Hash_c w t ht)
  have HROW := hid hrow
  unfold foundT
  obtain ⟨xs, hxs⟩ : ∃ xs, xs = p.getD (hashS t) [] := ⟨_, rfl⟩
  rw [← hxs] at hc HROW hn ⊢
  have HIN := hid (fun k (hk : xs[k]? = some t) => show hasT xs t = true from List.any_eq_true.2 ⟨t, List.mem_of_getElem? hk, by simp⟩)
  have HOUT := hid (fun (hk : ∀ j, xs[j]? ≠ some t) => show hasT xs t = false from by
    cases hb : hasT xs t with
    | false => rfl
    | true =>
      obtain ⟨x, hx, he⟩ := List.any_eq_true.1 hb
      obtain ⟨i, hi⟩ := List.mem_iff_getElem?.1 hx
      have he : x = t := ByteArray.ext (eq_of_beq he)
      subst he
      exact absurd hi (hk i))
  obtain ⟨B, hB⟩ : ∃ B, B = hasT xs t := ⟨_, rfl⟩
  rw [← hB] at HIN HOUT ⊢
  obtain ⟨n, hne⟩ : ∃ n, n = xs.length := ⟨_, rfl⟩
  have HN := hid hne
  rw [← hne] at hc hn
  change hashS t < 4096 at hlt
  obtain ⟨q, hq⟩ : ∃ q, q = hashS t := ⟨_, rfl⟩
  rw [← hq] at hc HH hlt
  have hqi : (q : Int) < 4096 := by omega
  clear h hp hxs hB hne hq hrow
  go_enter Try.func102, Try.ntmps102
  go_wp2_with fail
  refine (HH.out _).mono ?_
  rintro e w1 ⟨rfl, rfl⟩
  go_wp2_with fail
  go_loop [6] (fun i => ∃ k : Nat, k ≤ n ∧ i = .int .i64 k ∧ Hid (∀ j, j < k → xs[j]? ≠ some t)) (fun i => n - (intOf i).toNat)
  case atStart => exact ⟨0, Nat.zero_le _, rfl, hid (fun j hj => by omega)⟩
  case round =>
    obtain ⟨k, hk, rfl, HK⟩ := hrel
    by_cases hlk : k < n
    · obtain ⟨b, hab, hcx⟩ := HROW.out.at k (by rw [← HN.out]; exact hlk)
      subst hab
      obtain ⟨x, hx⟩ : ∃ x, x = xs[k]'(by rw [← HN.out]; exact hlk) := ⟨_, rfl⟩
      rw [← hx] at hcx
      have HX := hid (show xs[k]? = some x by rw [hx]; exact List.getElem?_eq_getElem _)
      clear hx
      by_cases hxt : x = t
      · have HF := hid (HIN.out k (by rw [HX.out, hxt]))
        subst hxt
        go_wp2_with fail
        go_ret
        exact ⟨ret_bool HF.out.symm, rfl⟩
      · have e1 := ne_txt hxt
        have HK2 := hid (show ∀ j, j < k + 1 → xs[j]? ≠ some t from fun j hj e => by
          by_cases hjk : j = k
          · subst hjk; rw [HX.out] at e; exact hxt (Option.some.inj e)
          · exact HK.out j (by omega) e)
        go_wp2_with fail
        go_round
        case rel => exact ⟨k + 1, by omega, by go_num, HK2⟩
        case measure => simp [intOf]; omega
    · have HF := hid (HOUT.out fun j e => by
        have := (List.getElem?_eq_some_iff.1 e).1
        have := HN.out
        exact HK.out j (by omega) e)
      go_wp2_with fail
      go_ret
      exact ⟨ret_bool HF.out.symm, rfl⟩
/-- Append of one text. -/
theorem run_append_txt {w : World} (ty : TypeId) (v : Value) (n : Nat) (xs : List ByteArray) (hown : w.ownsRow 0 9 1 v n (strs xs)) (ad : Addr) (t : ByteArray) (hu : w.cell? ad = some (.string t)) (hn : n + 1 ≤ 8000000000001) :
    ∃ v' w', (Builtin.append_ #[89, 89] ty #[v, .slice (some ad) 1 1]).run Try.prog w = .ok v' w' ∧ w'.ownsRow 0 9 1 v' (n + 1) (strs (xs ++ [t])) ∧ w.grownBy w' v.ownBlock ∧ (v'.ownBlock = v.ownBlock ∨ v'.ownBlock = some w.heap.size) := by
  obtain ⟨i, g2, gz, g3, g4⟩ := info_parts Try.info_txt
  obtain ⟨v', w', hrun, q1, q2, q3, q4⟩ := run_append_own_at (P := Try.prog) w 0 89 ty 9 i _ 1 16 Try.underlying89 g2 gz g3 g4 rfl (by omega) v n (strs xs) hown ad 1 1 [.string t] rfl (fun j u hj => by
    match j, hj with
    | 0, hj => simp at hj; subst hj; simpa [Addr.add] using hu) (by simp [Value.oneCell']) (by unfold maxLen; omega) (by omega) (Nat.zero_le _)
  have e : strs (xs ++ [t]) = strs xs ++ [.string t] := by simp
  exact ⟨v', w', hrun, by rw [e]; exact q1, q2, by first | exact q3 | exact q4⟩
end Go.Proofs.Ythlmfjoiicnomaa
namespace Go.Proofs.Ythlmfjoiicnomaa
open Go.RowKit
set_option linter.unusedVariables false
set_option linter.unusedSimpArgs false

theorem wpList_append_txt {ops : Array Oper} {Q : Exit → Act → World → Prop} {a : Act} {w : World} {o : Oper} {rest : List Oper} (hgd : o.guard = none) (s x : Operand)
    (ho : o.op = .call { callee := .builtin .append, args := #[s, x], argTypes := #[89, 89] })
    (v : Value) (n : Nat) (xs : List ByteArray) (hs : a.eval s = v) (hown : w.ownsRow 0 9 1 v n (strs xs)) (ad : Addr) (t : ByteArray) (hx : a.eval x = .slice (some ad) 1 1) (hu : w.cell? ad = some (.string t)) (hn : n + 1 ≤ 8000000000001)
    (h : ∀ v' w', w'.ownsRow 0 9 1 v' (n + 1) (strs (xs ++ [t])) → w.grownBy w' v.ownBlock → (v'.ownBlock = v.ownBlock ∨ v'.ownBlock = some w.heap.size) → wpList Try.prog ops Q rest (a.put o.dst v') w') : wpList Try.prog ops Q (o :: rest) a w := by
  refine wpList_plain hgd fun K hK => ?_
  obtain ⟨v', w', hrun, q1, q2, q3⟩ := run_append_txt o.type v n xs hown ad t hu hn
  unfold Oper.wp execOp
  simp only [ho, resolve, invoke, builtin, Sem.run_bind, Sem.run_pure, Result.andThen_ok, List.map_toArray, List.map_cons, List.map_nil, hs, hx, hrun]
  exact hK _ _ (h v' w' q1 q2 q3)
/-- What l3Mark leaves. -/
def Marked (w w' : World) (g : Nat) (S : Nat → Prop) (p : List (List ByteArray)) : Prop :=
  ∃ S' : Nat → Prop, Tab w' g S' p ∧ Keeps S w w' ∧ ∀ b, S' b → S b ∨ (w.heap.size ≤ b ∧ b < w'.heap.size)

set_option maxRecDepth 100000 in
set_option maxHeartbeats 1600000 in
theorem l3Mark_c (w : World) (g : Nat) (S : Nat → Prop) (p : List (List ByteArray)) (t : ByteArray) (h : Tab w g S p) (hp : p.length = 4096) (ht : t.size ≤ 1000000) (hn : (p.getD (hashS t) []).length ≤ 8000000000000) :
    Calls Try.prog 96 #[.slice (some ⟨g, 0, none⟩) 4096 4096, .string t] w fun e w' => e = .returned (.tuple #[]) ∧ Marked w w' g S (markT p t) := by
  have hlt := hashTo_lt t t.size
  obtain ⟨r, c, hc, hrow, hrb, hstep⟩ := h.row (row_get (p := p) (k := hashS t) (by rw [hp]; exact hlt))
  have HH := hid (fun w => l3Hash_c w t ht)
  have HG := hid h.lt
  have HSG := hid (show S g from by obtain ⟨_, _, _, _, _, _, _, hg⟩ := h; exact hg)
  unfold markT
  obtain ⟨xs, hxs⟩ : ∃ xs, xs = p.getD (hashS t) [] := ⟨_, rfl⟩
  rw [← hxs] at hc hrow hn hstep ⊢
  obtain ⟨n, hne⟩ : ∃ n, n = xs.length := ⟨_, rfl⟩
  have HROW := hid (show w.ownsRow 0 9 1 (.slice r n c) n (strs xs) from by rw [hne]; exact hrow)
  have HN := hid hne
  have HST := hid hstep
  have HRB := hid hrb
  rw [← hne] at hc hn
  change hashS t < 4096 at hlt
  obtain ⟨q, hq⟩ : ∃ q, q = hashS t := ⟨_, rfl⟩
  rw [← hq] at hc HH hlt HST ⊢
  have hqi : (q : Int) < 4096 := by omega
  rw [← hne] at HST
  clear h hp hxs hne hq hrow hstep hrb
  go_enter Try.func96, Try.ntmps96
  go_wp2_with fail
  refine (HH.out _).mono ?_
  rintro e w1 ⟨rfl, rfl⟩
  have HO := hid (own_below HROW.out ((Below.refl _ _).alloc (Nat.le_refl _) (.cells #[.string t] 9)))
  go_wp2_with (at_builtin; refine wpList_append_txt rfl (.tmp 12) (.tmp 14) rfl _ _ _ rfl HO.out _ t rfl (by simp) (by omega) ?_)
  intro v5 w5 hown5 hgrow5 hat5
  rw [ownBlock_slice] at hgrow5 hat5
  obtain ⟨hc5, hf5, htab⟩ := HST.out w5 v5 (xs ++ [t]) ((Keeps.of_below ((Below.refl _ _).alloc (Nat.le_refl _) (.cells #[.string t] 9))).trans (Keeps.of_grown hgrow5 (fun k hk => hk))) (by rw [List.length_append, List.length_singleton, ← HN.out]; exact own_cast hown5 rfl (by simp))
    (hat5.imp id fun e b hb k hk hkl he => by rw [e] at hb; have := Option.some.inj hb; omega)
  have HK5 := hid (show Keeps S w1 w5 from ((Keeps.of_below ((Below.refl _ _).alloc (Nat.le_refl _) (.cells #[.string t] 9))).trans (Keeps.of_grown hgrow5 (fun k hk => (HRB.out k hk).1))))
  have HAT := hid (show ∀ b, v5.ownBlock = some b → S b ∨ (w1.heap.size ≤ b ∧ b < w5.heap.size) from fun b hb => by
    have hb9 : b < w5.heap.size := by
      obtain ⟨a9, c9, rfl, hbb⟩ := own_shape hown5
      rw [ownBlock_slice] at hb
      exact (hbb b hb).2
    rcases hat5 with e | e
    · rw [e] at hb; exact .inl (HRB.out b hb).1
    · rw [e] at hb; have := Option.some.inj hb; exact .inr (by omega))
  have HT := hid htab
  obtain ⟨a5, c5, rfl, _⟩ := own_shape hown5
  clear htab hown5 hgrow5 hat5
  go_wp2_with fail
  go_end0
  refine ⟨rfl, _, HT.out, HK5.out.trans ((Keeps.setCell w5 ⟨g, q, none⟩ _).mono fun k (e : k = g) => by rw [e]; exact HSG.out), fun b hb => ?_⟩
  rcases hb with hb | hb
  · exact .inl hb
  · have := HAT.out b hb
    have hz : (w5.setCell ⟨g, q, none⟩ (.slice a5 (n + 1) c5)).heap.size = w5.heap.size := by simp [World.setCell]
    rw [hz]
    exact this
/-- The order of outcomes: zero for the same. -/
def lessTo (a b : List Int) : Int :=
  match a, b with
  | x :: a, y :: b => if x < y then -1 else if x > y then 1 else lessTo a b
  | _, _ => 0
theorem less_same : ∀ (a : List Int) (b : List Int), a.length = b.length → (lessTo a b = 0 ↔ a = b)
  | [], [], _ => by simp [lessTo]
  | [], y :: b, h => by simp at h
  | x :: a, [], h => by simp at h
  | x :: a, y :: b, h => by
    have ih := less_same a b (by simpa using h)
    unfold lessTo
    by_cases h1 : x < y
    · rw [if_pos h1]; simp; omega
    · rw [if_neg h1]
      by_cases h2 : x > y
      · rw [if_pos h2]; simp; omega
      · rw [if_neg h2, ih]
        have : x = y := by omega
        simp [this]
end Go.Proofs.Ythlmfjoiicnomaa
namespace Go.Proofs.Ythlmfjoiicnomaa
open Go.RowKit
set_option linter.unusedVariables false
set_option linter.unusedSimpArgs false

theorem less_drop {xs ys : List Int} {k : Nat} {x y : Int} (hx : xs[k]? = some x) (hy : ys[k]? = some y) : lessTo (xs.drop k) (ys.drop k) = if x < y then -1 else if x > y then 1 else lessTo (xs.drop (k + 1)) (ys.drop (k + 1)) := by
  obtain ⟨h1, rfl⟩ := List.getElem?_eq_some_iff.1 hx
  obtain ⟨h2, rfl⟩ := List.getElem?_eq_some_iff.1 hy
  rw [List.drop_eq_getElem_cons h1, List.drop_eq_getElem_cons h2]
  rfl
theorem less_end {xs ys : List Int} {k : Nat} (h : xs.length ≤ k ∨ ys.length ≤ k) : lessTo (xs.drop k) (ys.drop k) = 0 := by
  rcases h with h | h
  · rw [List.drop_eq_nil_of_le h]
    cases ys.drop k <;> rfl
  · rw [List.drop_eq_nil_of_le h]
    cases xs.drop k <;> rfl
set_option maxHeartbeats 1600000 in
theorem l3Less_c (w : World) (a a' : Option Addr) (cap cap' : Nat) (xs ys : List Int) (h : Rd w a (ints xs)) (h' : Rd w a' (ints ys)) (hl : xs.length ≤ 1048576) (hl' : ys.length ≤ 1048576) :
    Calls Try.prog 108 #[.slice a xs.length cap, .slice a' ys.length cap'] w fun e w' => e = .returned (.int .i64 (lessTo xs ys)) ∧ Below w.heap.size w w' := by
  have HX := hid h
  have HY := hid h'
  obtain ⟨n, hn⟩ : ∃ n, n = xs.length := ⟨_, rfl⟩
  obtain ⟨m, hm⟩ : ∃ m, m = ys.length := ⟨_, rfl⟩
  have HN := hid (And.intro hn hm)
  obtain ⟨L, hL⟩ : ∃ L, L = lessTo xs ys := ⟨_, rfl⟩
  have HL0 := hid (show lessTo (xs.drop 0) (ys.drop 0) = L by rw [hL]; rfl)
  rw [← hL, ← hn, ← hm]
  rw [← hn] at hl
  rw [← hm] at hl'
  clear hn hm hL h h'
  go_enter Try.func108, Try.ntmps108
  go_wp2_with fail
  go_loopw [5] (fun i wr => ∃ k : Nat, k ≤ n ∧ i = .int .i64 k ∧ Hid (lessTo (xs.drop k) (ys.drop k) = L) ∧ Hid (Below w.heap.size w wr)) (fun i _ => n - (intOf i).toNat)
  case atStart => exact ⟨0, Nat.zero_le _, rfl, HL0, hid (Below.refl _ _)⟩
  case round =>
    obtain ⟨k, hk, rfl, HK, HB⟩ := hrel
    by_cases hkn : k < n
    · by_cases hkm : k < m
      · obtain ⟨b, off, hab, hb, hc⟩ := HX.out.int k (by rw [← HN.out.1]; exact hkn)
        obtain ⟨b', off', hab', hb', hc'⟩ := HY.out.int k (by rw [← HN.out.2]; exact hkm)
        subst hab
        subst hab'
        obtain ⟨x, hx⟩ : ∃ x, x = xs[k]'(by rw [← HN.out.1]; exact hkn) := ⟨_, rfl⟩
        obtain ⟨y, hy⟩ : ∃ y, y = ys[k]'(by rw [← HN.out.2]; exact hkm) := ⟨_, rfl⟩
        rw [← hx] at hc
        rw [← hy] at hc'
        have HD := hid (less_drop (xs := xs) (ys := ys) (k := k) (x := x) (y := y) (by rw [hx]; exact List.getElem?_eq_getElem _) (by rw [hy]; exact List.getElem?_eq_getElem _))
        have hcx := (HB.out.cell (p := ⟨b, off + k, none⟩) hb).trans hc
        have hcx' := (HB.out.cell (p := ⟨b', off' + k, none⟩) hb').trans hc'
        have hkn' : (k : Int) < n := by omega
        have hkm' : (k : Int) < m := by omega
        clear hc hc' hx hy
        by_cases h1 : x < y
        · have HF := hid (show L = -1 by rw [← HK.out, HD.out, if_pos h1])
          go_wp2_with fail
          go_quiet (fail)
          go_wp2
          go_ret
          exact ⟨by rw [HF.out]; rfl, below_drewN _ HB.out⟩
        · have h1' : decide (x < y) = false := by simpa using h1
          by_cases h2 : y < x
          · have HF := hid (show L = 1 by rw [← HK.out, HD.out, if_neg h1, if_pos h2])
            clear h1
            go_wp2_with fail
            go_quiet (fail)
            go_wp2_with fail
            go_quiet (fail)
            go_wp2
            go_ret
            exact ⟨by rw [HF.out]; rfl, below_drewN _ (below_drewN _ HB.out)⟩
          · have h2' : decide (y < x) = false := by simpa using h2
            have HF := hid (show lessTo (xs.drop (k + 1)) (ys.drop (k + 1)) = L by rw [← HK.out, HD.out, if_neg h1, if_neg (show ¬ x > y from h2)])
            clear h1 h2
            go_wp2_with fail
            go_quiet (fail)
            go_wp2_with fail
            go_quiet (fail)
            go_wp2_with fail
            go_roundw
            case rel => exact ⟨k + 1, by omega, by go_num, HF, hid (below_drewN _ HB.out)⟩
            case measure => simp [intOf]; omega
      · have HF := hid (show L = 0 by rw [← HK.out]; exact less_end (.inr (by have := HN.out.2; omega)))
        go_wp2_with fail
        go_ret
        exact ⟨by rw [HF.out]; rfl, HB.out⟩
    · have HF := hid (show L = 0 by rw [← HK.out]; exact less_end (.inl (by have := HN.out.1; omega)))
      go_wp2_with fail
      go_ret
      exact ⟨by rw [HF.out]; rfl, HB.out⟩
end Go.Proofs.Ythlmfjoiicnomaa
