/-
  PROVED HERE: words for the program's states; what (*values).next does. what (*values).stored, allDone do. what (*values).outcome does. what newSeq, (*seq).moves, done do. CONDITIONS: as each theorem states.
-/
import Derived.Test.YthlmfjoiicnomaaBf
import Derived.Test.YthlmfjoiicnomaaSw
import Derived.Test.YthlmfjoiicnomaaVav
import Derived.Test.YthlmfjoiicnomaaOpn
import Derived.Test.YthlmfjoiicnomaaSpg
namespace Go.Proofs.Ythlmfjoiicnomaa
open Go.RowKit
set_option linter.unusedVariables false
set_option linter.unusedSimpArgs false

def pad (k : Nat) (xs : List Int) : List Int := xs ++ List.replicate (k - xs.length) 0
theorem length_pad {k : Nat} {xs : List Int} (h : xs.length ≤ k) : (pad k xs).length = k := by simp [pad]; omega
theorem pad_get {k : Nat} {xs : List Int} {i : Nat} {x : Int} (h : xs[i]? = some x) : (pad k xs)[i]? = some x := by
  unfold pad
  rw [List.getElem?_append_left (List.getElem?_eq_some_iff.1 h).1]
  exact h
theorem pad_set {k : Nat} {xs : List Int} {i : Nat} {x : Int} (h : i < xs.length) : (pad k xs).set i x = pad k (xs.set i x) := by
  unfold pad
  rw [List.set_append_left _ _ h, List.length_set]
abbrev b8s (xs : List Int) : List Value := xs.map (Value.int .u8)
/-- The cells of a state's values: the program, how far threads are, registers, memory. -/
def valC (a : Option Addr) (n cap : Nat) (s : St) : List Value := .slice a n cap :: (b8s (pad 3 s.pc) ++ (b8s (pad 9 s.regs) ++ b8s s.mem))
structure ValLen (s : St) : Prop where
  pc : s.pc.length ≤ 3
  regs : s.regs.length ≤ 9
  mem : s.mem.length = 3
theorem Good.vlen {p : Prg} {s : St} (h : Good p s) (hv : Shape p) : ValLen s := by
  have := hv.len
  have := h.pcl
  have := h.regl
  exact ⟨by omega, by omega, h.meml⟩
section
variable {a : Option Addr} {n cap : Nat} {s : St}
theorem length_valC (h : ValLen s) : (valC a n cap s).length = 16 := by
  simp [valC, length_pad h.pc, length_pad h.regs, h.mem]
theorem valC_pc (h : ValLen s) {t : Nat} {k : Int} (hk : s.pc[t]? = some k) : (valC a n cap s)[1 + t]? = some (.int .u8 k) := by
  have ht := (List.getElem?_eq_some_iff.1 hk).1
  have := h.pc
  unfold valC
  rw [Nat.add_comm, List.getElem?_cons_succ, List.getElem?_append_left (by simp [length_pad h.pc]; omega), List.getElem?_map, pad_get hk]
  rfl
theorem valC_reg (h : ValLen s) {i : Nat} {k : Int} (hk : s.regs[i]? = some k) : (valC a n cap s)[4 + i]? = some (.int .u8 k) := by
  have ht := (List.getElem?_eq_some_iff.1 hk).1
  have := h.regs
  unfold valC
  rw [show 4 + i = (3 + i) + 1 by omega, List.getElem?_cons_succ, List.getElem?_append_right (by simp [length_pad h.pc]), List.getElem?_append_left (by simp [length_pad h.pc, length_pad h.regs]; omega), List.getElem?_map]
  simp [length_pad h.pc, pad_get hk]
theorem valC_mem (h : ValLen s) {i : Nat} {k : Int} (hk : s.mem[i]? = some k) : (valC a n cap s)[13 + i]? = some (.int .u8 k) := by
  have ht := (List.getElem?_eq_some_iff.1 hk).1
  unfold valC
  rw [show 13 + i = (12 + i) + 1 by omega, List.getElem?_cons_succ, List.getElem?_append_right (by simp [length_pad h.pc]; omega), List.getElem?_append_right (by simp [length_pad h.pc, length_pad h.regs]; omega), List.getElem?_map]
  simp [length_pad h.pc, length_pad h.regs, show 12 + i - 3 - 9 = i by omega, hk]
theorem valC_setpc (h : ValLen s) {t : Nat} (ht : t < s.pc.length) (v : Int) : (valC a n cap s).set (1 + t) (.int .u8 v) = valC a n cap { s with pc := s.pc.set t v } := by
  have := h.pc
  unfold valC
  rw [Nat.add_comm, List.set_cons_succ, List.set_append_left _ _ (by simp [length_pad h.pc]; omega)]
  simp [b8s, ← List.map_set, pad_set ht]
theorem valC_setreg (h : ValLen s) {i : Nat} (ht : i < s.regs.length) (v : Int) : (valC a n cap s).set (4 + i) (.int .u8 v) = valC a n cap { s with regs := s.regs.set i v } := by
  have := h.regs
  unfold valC
  rw [show 4 + i = (3 + i) + 1 by omega, List.set_cons_succ, List.set_append_right _ _ (by simp [length_pad h.pc]), List.set_append_left _ _ (by simp [length_pad h.pc, length_pad h.regs]; omega)]
  simp [b8s, ← List.map_set, length_pad h.pc, pad_set ht]
theorem valC_setmem (h : ValLen s) {i : Nat} (v : Int) : (valC a n cap s).set (13 + i) (.int .u8 v) = valC a n cap { s with mem := s.mem.set i v } := by
  unfold valC
  rw [show 13 + i = (12 + i) + 1 by omega, List.set_cons_succ, List.set_append_right _ _ (by simp [length_pad h.pc]; omega), List.set_append_right _ _ (by simp [length_pad h.pc, length_pad h.regs]; omega)]
  simp [b8s, ← List.map_set, length_pad h.pc, length_pad h.regs, show 12 + i - 3 - 9 = i by omega]
end
/-- The state s of program p lies at block g (other cells may lie behind it). -/
structure VAt (w : World) (g : Nat) (p : Prg) (s : St) : Prop where
  at_ : ∃ a cap ex T, w.heap[g]? = some (.cells (valC a p.length cap s ++ ex).toArray T (0, 0)) ∧ RdP w a p
  good : Good p s
theorem VAt.below {w w' : World} {g : Nat} {p : Prg} {s : St} (h : VAt w g p s) (hb : Below w.heap.size w w') : VAt w' g p s := by
  obtain ⟨⟨a, cap, ex, T, h1, h2⟩, hg⟩ := h
  exact ⟨⟨a, cap, ex, T, by rw [hb.block g (Array.getElem?_eq_some_iff.1 h1).1]; exact h1, h2.below hb⟩, hg⟩
/-- The cells of a thread's state. -/
theorem VAt.cells {w : World} {g : Nat} {p : Prg} {s : St} (h : VAt w g p s) (hv : Shape p) : ∃ a cap, RdP w a p ∧ w.cell? ⟨g, 0, none⟩ = some (.slice a p.length cap) ∧ (∀ (t : Nat) (k : Int), s.pc[t]? = some k → w.cell? ⟨g, 1 + t, none⟩ = some (.int .u8 k)) ∧
    (∀ (i : Nat) (k : Int), s.regs[i]? = some k → w.cell? ⟨g, 4 + i, none⟩ = some (.int .u8 k)) ∧ (∀ (i : Nat) (k : Int), s.mem[i]? = some k → w.cell? ⟨g, 13 + i, none⟩ = some (.int .u8 k)) := by
  obtain ⟨⟨a, cap, ex, T, h1, h2⟩, hg⟩ := h
  have hl := hg.vlen hv
  have e := fun (j : Nat) (v : Value) (hj : (valC a p.length cap s)[j]? = some v) => show w.cell? ⟨g, j, none⟩ = some v from by
    rw [cell_of_row w g j _ _ _ h1]
    simp only [List.getElem?_toArray]
    rw [List.getElem?_append_left (List.getElem?_eq_some_iff.1 hj).1]
    exact hj
  exact ⟨a, cap, h2, e 0 _ rfl, fun t k hk => e _ _ (valC_pc hl hk), fun i k hk => e _ _ (valC_reg hl hk), fun i k hk => e _ _ (valC_mem hl hk)⟩

set_option maxHeartbeats 1600000 in
theorem next_c (w : World) (g : Nat) (p : Prg) (s : St) (t : Nat) (h : VAt w g p s) (hv : Shape p) (ht : t < p.length) :
    Calls Try.prog 136 #[.pointer (some ⟨g, 0, none⟩), .int .i64 t] w fun e w' => e = .returned (.tuple #[(if goes p s t then nxt p s t else insZ).v, .bool (goes p s t)]) ∧ Below w.heap.size w w' := by
  obtain ⟨a, cap, hrp, h0, hpc, _, _⟩ := h.cells hv
  obtain ⟨b, off, r, rc, xs, hab, hbl, hxs, hcell, hrx, hxl⟩ := hrp.at' t ht
  subst hab
  obtain ⟨k, hk, hkl⟩ := h.good.pcb t xs hxs
  have hc := hpc t _ hk
  have hn3 : p.length ≤ 3 := hv.len
  have h7 := hv.row t xs hxs
  have HG := hid (goes_of hxs hk)
  obtain ⟨n, hn⟩ : ∃ n, n = p.length := ⟨_, rfl⟩
  obtain ⟨m, hm⟩ : ∃ m, m = xs.length := ⟨_, rfl⟩
  rw [← hn] at h0 ht hn3
  rw [← hm] at hcell hkl h7 HG
  have ht3 : (t : Int) < 3 := by omega
  have hgl : g < w.heap.size := World.block_lt_of_cell? w ⟨g, 0, none⟩ h0
  have f := fun (j : Nat) (v : Value) (hj : w.cell? ⟨g, j, none⟩ = some v) => (((Below.refl w.heap.size w).alloc (Nat.le_refl _) (.cells #[.int .i64 0, .int .i64 0, .int .i64 0, .int .i64 0] 70)).cell (p := ⟨g, j, none⟩) hgl).trans hj
  by_cases hkm : k < m
  · have HX := hid (show ∃ x, xs[k]? = some x from ⟨_, List.getElem?_eq_getElem (by omega)⟩)
    obtain ⟨x, hx⟩ := HX.out
    obtain ⟨rb, ro, x', hra, hrl, hx', hins⟩ := hrx.ins k (by omega)
    obtain rfl : x = x' := by rw [hx] at hx'; exact Option.some.inj hx'
    subst hra
    have HNX := hid (nxt_of hxs hk hx)
    rw [decide_eq_true hkm] at HG
    have d0 : decide ((m : Int) ≤ (k : Int)) = false := decide_eq_false (by omega)
    have hB := (Below.refl w.heap.size w).alloc (Nat.le_refl _) (.cells #[.int .i64 0, .int .i64 0, .int .i64 0, .int .i64 0] 70)
    obtain ⟨i0, i1, i2, i3⟩ := hins.below (below_drewN 1 hB) hrl
    have hins' := hins
    rw [HG.out, HNX.out]
    obtain ⟨op, loc, reg, val⟩ := x
    clear hrp hpc hxs hxl hk HX hx hx' hn hm HG HNX hv h hrx
    obtain ⟨j0, j1, j2, j3⟩ := hins'
    go_enter Try.func136, Try.ntmps136
    go_wp2_with fail
    refine wp_region_mix (by kernel_rfl) (by kernel_rfl) ?_
    go_wp2_with (first | (with_reducible refine wpMix_nil ?_) | (with_reducible refine wpMix_rd rfl rfl (fun K hK => ?_); go_simp; (try go_bits); refine hK _ ?_; clear hK K))
    refine wp_region_mix (by kernel_rfl) (by kernel_rfl) ?_
    go_wp2_with (first | (with_reducible refine wpMix_nil ?_) | (with_reducible refine wpMix_rd rfl rfl (fun K hK => ?_); go_simp; (try go_bits); refine hK _ ?_; clear hK K) | (with_reducible refine wpMix_act (o := ⟨_, .store _ _ _, _, _, _, _⟩) rfl rfl (fun K hK => ?_)))
    exact bodyPost_ret (v := .tuple #[.agg #[.int .i64 op, .int .i64 loc, .int .i64 reg, .int .i64 val], .bool true]) (by simp [results, Try.results136, go_sem]) rfl ⟨rfl, below_drewN 2 ((Below.refl _ _).alloc (Nat.le_refl _) _)⟩
  · have d0 : decide ((m : Int) ≤ (k : Int)) = true := decide_eq_true (by omega)
    rw [decide_eq_false hkm] at HG
    rw [HG.out]
    clear hrp hpc hxs hxl hk hn hm HG hv h hrx
    go_enter Try.func136, Try.ntmps136
    go_wp2_with fail
    refine wp_region_mix (by kernel_rfl) (by kernel_rfl) ?_
    go_wp2_with (first | (with_reducible refine wpMix_nil ?_) | (with_reducible refine wpMix_rd rfl rfl (fun K hK => ?_); go_simp; (try go_bits); refine hK _ ?_; clear hK K) | (with_reducible refine wpMix_act (o := ⟨_, .store _ _ _, _, _, _, _⟩) rfl rfl (fun K hK => ?_)))
    exact bodyPost_ret (v := .tuple #[insZ.v, .bool false]) (by simp [results, Try.results136, go_sem, insZ]) rfl ⟨rfl, below_drewN 1 ((Below.refl _ _).alloc (Nat.le_refl _) _)⟩
end Go.Proofs.Ythlmfjoiicnomaa
namespace Go.Proofs.Ythlmfjoiicnomaa
open Go.RowKit
set_option linter.unusedVariables false
set_option linter.unusedSimpArgs false

theorem goes_thr {p : Prg} {s : St} (hg : Good p s) {t : Nat} (h : goes p s t = true) : t < p.length := by
  by_cases ht : t < p.length
  · exact ht
  · exfalso
    unfold goes at h
    simp only [decide_eq_true_eq, List.getD_eq_getElem?_getD] at h
    have e1 : p[t]? = none := List.getElem?_eq_none (by omega)
    have e2 : s.pc[t]? = none := List.getElem?_eq_none (by rw [hg.pcl]; omega)
    rw [e1, e2] at h
    simp at h

set_option maxHeartbeats 1600000 in
theorem stored_c (w : World) (g : Nat) (p : Prg) (s : St) (t : Nat) (x : Ins) (h : VAt w g p s) (hv : Shape p) (ht : t < p.length) (hx : insValid x = true) :
    Calls Try.prog 139 #[.pointer (some ⟨g, 0, none⟩), .int .i64 t, x.v] w fun e w' => e = .returned (.int .u8 (wval s t x)) ∧ Below w.heap.size w w' := by
  obtain ⟨a, cap, hrp, h0, _, hreg, _⟩ := h.cells hv
  obtain ⟨rn, hrn, hr2⟩ := valid_reg hx
  have hval := valid_val hx
  obtain ⟨op, loc, reg, val⟩ := x
  have hrn : reg = rn := hrn
  subst hrn
  have hval : 0 ≤ val ∧ val ≤ 3 := hval
  have hn3 : p.length ≤ 3 := hv.len
  have ht3 : (t : Int) < 3 := by omega
  have hr3 : (rn : Int) < 3 := by omega
  have hil : t * 3 + rn < s.regs.length := by rw [h.good.regl]; omega
  obtain ⟨rv, hrv⟩ : ∃ rv, s.regs[t * 3 + rn]? = some rv := ⟨_, List.getElem?_eq_getElem hil⟩
  have hc := hreg _ _ hrv
  rw [← Nat.add_assoc] at hc
  have hgl : g < w.heap.size := World.block_lt_of_cell? w ⟨g, 0, none⟩ h0
  have HW := hid (show wval s t ⟨op, loc, rn, val⟩ = if op = 3 then rv else val from by
    unfold wval
    simp [List.getD_eq_getElem?_getD, hrv])
  clear hreg hrp h hv hrv h0 hx
  by_cases h3 : op = 3
  · subst h3
    rw [if_pos rfl] at HW
    rw [HW.out]
    go_enter Try.func139, Try.ntmps139
    go_wp2_with fail
    refine wp_region_mix (by kernel_rfl) (by kernel_rfl) ?_
    go_wp2_with (first | (with_reducible refine wpMix_nil ?_) | (with_reducible refine wpMix_rd rfl rfl (fun K hK => ?_); go_simp; (try go_bits); refine hK _ ?_; clear hK K))
    go_ret
    exact ⟨rfl, below_drewN 1 ((Below.refl _ _).alloc (Nat.le_refl _) _)⟩
  · rw [if_neg h3] at HW
    rw [HW.out]
    have hw : IntKind.u8.wrap val = val := IntWalk.u8_in _ (by omega)
    go_enter Try.func139, Try.ntmps139
    go_wp2
    go_ret
    exact ⟨by first | rfl | rw [hw], (Below.refl _ _).alloc (Nat.le_refl _) _⟩

set_option maxHeartbeats 1600000 in
theorem allDone_c (w : World) (g : Nat) (p : Prg) (s : St) (h : VAt w g p s) (hv : Shape p) :
    Calls Try.prog 130 #[.pointer (some ⟨g, 0, none⟩)] w fun e w' => e = .returned (.bool (done3 p s)) ∧ Below w.heap.size w w' := by
  obtain ⟨a, cap, hrp, h0, _, _, _⟩ := h.cells hv
  have HAT := hid h
  have HNX := hid (fun w (h : VAt w g p s) (t : Nat) (ht : t < p.length) => next_c w g p s t h hv ht)
  obtain ⟨n, hn⟩ : ∃ n, n = p.length := ⟨_, rfl⟩
  have hn3 : n ≤ 3 := by rw [hn]; exact hv.len
  rw [← hn] at h0 HNX
  have hgl : g < w.heap.size := World.block_lt_of_cell? w ⟨g, 0, none⟩ h0
  have HNO := hid (fun t (h : goes p s t = true) (ht : t < n) => show done3 p s = false from by
    unfold done3
    rw [List.all_eq_false]
    exact ⟨t, List.mem_range.2 (by omega), by simp [h]⟩)
  have HYES := hid (fun (h : ∀ t, t < n → goes p s t = false) => show done3 p s = true from by
    unfold done3
    rw [List.all_eq_true]
    intro t ht
    rw [h t (by have := List.mem_range.1 ht; omega)]; rfl)
  clear hn h hv hrp
  go_enter Try.func130, Try.ntmps130
  go_wp2_with fail
  go_loopw [11] (fun i wr => ∃ k : Nat, k ≤ n ∧ i = .int .i64 k ∧ Hid (∀ t, t < k → goes p s t = false) ∧ Hid (Below w.heap.size w wr)) (fun i _ => n - (intOf i).toNat)
  case atStart => exact ⟨0, Nat.zero_le _, rfl, hid (fun t ht => by omega), hid (Below.refl _ _)⟩
  case round =>
    obtain ⟨k, hk, rfl, HK, HB⟩ := hrel
    by_cases hlt : k < n
    · have HC := hid (HNX.out wr (HAT.out.below HB.out) k hlt)
      by_cases hgo : goes p s k = true
      · have HF := hid (HNO.out k hgo hlt)
        rw [hgo] at HC
        clear hgo
        go_wp2_with fail
        refine HC.out.mono ?_
        rintro e w2 ⟨rfl, hb2⟩
        have HB2 := hid (HB.out.trans (hb2.mono HB.out.size))
        clear hb2
        go_wp2
        go_ret
        exact ⟨ret_bool HF.out.symm, (HB2.out.alloc HB2.out.size _)⟩
      · have hgo : goes p s k = false := by simpa using hgo
        have HGO := hid hgo
        rw [hgo] at HC
        clear hgo
        go_wp2_with fail
        refine HC.out.mono ?_
        rintro e w2 ⟨rfl, hb2⟩
        have HB2 := hid (HB.out.trans (hb2.mono HB.out.size))
        clear hb2
        go_wp2_with fail
        go_roundw
        case rel => exact ⟨k + 1, by omega, by go_num, hid (fun t ht => by
          by_cases e : t = k
          · rw [e]; exact HGO.out
          · exact HK.out t (by omega)), hid (HB2.out.alloc HB2.out.size _)⟩
        case measure => simp [intOf]; omega
    · go_wp2
      go_ret
      exact ⟨ret_bool (HYES.out fun t ht => HK.out t (by omega)).symm, HB.out⟩
end Go.Proofs.Ythlmfjoiicnomaa
namespace Go.Proofs.Ythlmfjoiicnomaa
open Go.RowKit
set_option linter.unusedVariables false
set_option linter.unusedSimpArgs false

theorem run_index3_0 (w : World) (x0 x1 x2 : Int) : (Instr.index 103 (.agg #[.int .u8 x0, .int .u8 x1, .int .u8 x2]) (.int .i64 0)).run Try.prog w = .ok (.int .u8 x0) w := by kernel_rfl
theorem run_index3_1 (w : World) (x0 x1 x2 : Int) : (Instr.index 103 (.agg #[.int .u8 x0, .int .u8 x1, .int .u8 x2]) (.int .i64 1)).run Try.prog w = .ok (.int .u8 x1) w := by kernel_rfl
theorem run_index3_2 (w : World) (x0 x1 x2 : Int) : (Instr.index 103 (.agg #[.int .u8 x0, .int .u8 x1, .int .u8 x2]) (.int .i64 2)).run Try.prog w = .ok (.int .u8 x2) w := by kernel_rfl
theorem run_index3 (w : World) (x0 x1 x2 : Int) (k : Nat) (y : Int) (h : [x0, x1, x2][k]? = some y) : (Instr.index 103 (.agg #[.int .u8 x0, .int .u8 x1, .int .u8 x2]) (.int .i64 (k : Int))).run Try.prog w = .ok (.int .u8 y) w := by
  match k, h with
  | 0, h => simp at h; subst h; exact run_index3_0 w _ _ _
  | 1, h => simp at h; subst h; exact run_index3_1 w _ _ _
  | 2, h => simp at h; subst h; exact run_index3_2 w _ _ _
  | k + 3, h => simp at h

/-- Append of one number, behind a new block that holds it. -/
theorem own_snoc {w w' : World} {base : Nat} {v : Value} {xs : List Int} {x : Int} (h : w'.ownsRow base 3 1 v (xs.length + 1) (ints xs ++ [.int .i64 x])) : w'.ownsRow base 3 1 v (xs ++ [x]).length (ints (xs ++ [x])) := by
  rw [List.length_append]
  simpa [ints] using h

set_option maxRecDepth 100000 in
set_option maxHeartbeats 3200000 in
theorem outcome_c (w : World) (g : Nat) (p : Prg) (s : St) (h : VAt w g p s) (hv : Shape p) :
    Calls Try.prog 142 #[.pointer (some ⟨g, 0, none⟩)] w (RetL w (out3 s)) := by
  obtain ⟨a, cap, hrp, h0, _, hreg, hmem⟩ := h.cells hv
  have hgl : g < w.heap.size := World.block_lt_of_cell? w ⟨g, 0, none⟩ h0
  have HL := hid h.good.regl
  have HM := hid h.good.meml
  have HRB := hid h.good.regb
  have HMB := hid h.good.memb
  obtain ⟨n, hn⟩ : ∃ n, n = p.length := ⟨_, rfl⟩
  have hn3 : n ≤ 3 := by rw [hn]; exact hv.len
  rw [← hn] at h0 HL
  have HREG := hid (fun (wr : World) (hb : Below w.heap.size w wr) (i : Nat) (k : Int) (hi : s.regs[i]? = some k) => (hb.cell (p := ⟨g, 4 + i, none⟩) hgl).trans (hreg i k hi))
  have HMEM := hid (fun (wr : World) (hb : Below w.heap.size w wr) (i : Nat) (k : Int) (hi : s.mem[i]? = some k) => (hb.cell (p := ⟨g, 13 + i, none⟩) hgl).trans (hmem i k hi))
  clear hreg hmem hrp hv h hn
  go_enter Try.func142, Try.ntmps142
  go_wp2_with fail
  go_loopw [3, 14] (fun v i wr => ∃ t : Nat, t ≤ n ∧ i = .int .i64 t ∧ Hid (wr.ownsRow w.heap.size 3 1 v (s.regs.take (t * 3)).length (ints (s.regs.take (t * 3)))) ∧ Hid (Below w.heap.size w wr)) (fun _ i _ => n - (intOf i).toNat)
  case atStart => exact ⟨0, Nat.zero_le _, rfl, hid (by simpa using own_none w w.heap.size 3 1), hid (Below.refl _ _)⟩
  case round =>
    obtain ⟨t, ht, rfl, HO, HB⟩ := hrel
    by_cases hlt : t < n
    · obtain ⟨r0, e0⟩ : ∃ r, s.regs[t * 3]? = some r := ⟨_, List.getElem?_eq_getElem (by rw [HL.out]; omega)⟩
      obtain ⟨r1, e1⟩ : ∃ r, s.regs[t * 3 + 1]? = some r := ⟨_, List.getElem?_eq_getElem (by rw [HL.out]; omega)⟩
      obtain ⟨r2, e2⟩ : ∃ r, s.regs[t * 3 + 2]? = some r := ⟨_, List.getElem?_eq_getElem (by rw [HL.out]; omega)⟩
      have c0 := HREG.out wr HB.out _ _ e0
      have c1 := HREG.out wr HB.out _ _ e1
      have c2 := HREG.out wr HB.out _ _ e2
      rw [← Nat.add_assoc] at c1 c2
      have HE := hid (And.intro e0 (And.intro e1 e2))
      have ht3 : (t : Int) < 3 := by omega
      have HLT := hid (fun (j : Nat) (hj : j ≤ 3) => show (s.regs.take (t * 3 + j)).length ≤ 12 by rw [List.length_take, HL.out]; omega)
      clear e0 e1 e2
      go_wp2_with fail
      clear c0 c1 c2
      go_loopw [3, 23] (fun v i wr => ∃ j : Nat, j ≤ 3 ∧ i = .int .i64 j ∧ Hid (wr.ownsRow w.heap.size 3 1 v (s.regs.take (t * 3 + j)).length (ints (s.regs.take (t * 3 + j)))) ∧ Hid (Below w.heap.size w wr)) (fun _ i _ => 3 - (intOf i).toNat)
      case atStart => exact ⟨0, by omega, rfl, HO, HB⟩
      case round =>
        obtain ⟨j, hj, rfl, HO2, HB2⟩ := hrel
        by_cases hj3 : j < 3
        · obtain ⟨y, hy, hry⟩ : ∃ y, [r0, r1, r2][j]? = some y ∧ s.regs[t * 3 + j]? = some y := by
            match j, hj3 with
            | 0, _ => exact ⟨r0, rfl, HE.out.1⟩
            | 1, _ => exact ⟨r1, rfl, HE.out.2.1⟩
            | 2, _ => exact ⟨r2, rfl, HE.out.2.2⟩
          have hix := fun w => run_index3 w r0 r1 r2 j y hy
          have HY := hid hry
          have hyb := HRB.out y (List.mem_of_getElem? hry)
          have HT := hid (take_snoc hry)
          have hll := HLT.out j hj
          obtain ⟨L, eL⟩ : ∃ L, L = s.regs.take (t * 3 + j) := ⟨_, rfl⟩
          rw [← eL] at HT hll HO2
          have hj3' : (j : Int) < 3 := by omega
          have hb2 := HB2.out.size
          clear hry hy eL
          go_wp2_with (at_builtin; refine wpList_append_one rfl (.tmp 26) (.tmp 29) 24 rfl w.heap.size 3 (.int .i64 0) 8 Try.underlying24 Try.info_int rfl _ _ _ rfl (HO2.out.alloc _) _ (.int .i64 y) rfl (by simp) rfl (by omega) (by omega) (by simp; omega) ?_)
          intro v1 w4 hown1 hgrow1
          have HO4 := hid (own_snoc (w := w) hown1)
          rw [← HT.out] at HO4
          have HB4 := hid ((HB2.out.alloc HB2.out.size _).grown hgrow1 (by simp; omega) (fun b hb => (HO2.out.lt b hb).1))
          clear hown1 hgrow1
          go_wp2_with fail
          go_roundw
          case rel => exact ⟨j + 1, by omega, by go_num, HO4, HB4⟩
          case measure => simp [intOf]; omega
        · obtain rfl : j = 3 := by omega
          have HO3 := hid (show wr.ownsRow w.heap.size 3 1 _ (s.regs.take ((t + 1) * 3)).length (ints (s.regs.take ((t + 1) * 3))) by rw [show (t + 1) * 3 = t * 3 + 3 by omega]; exact HO2.out)
          go_wp2_with fail
          go_roundw
          case rel => exact ⟨t + 1, by omega, by go_num, HO3, HB2⟩
          case measure => simp [intOf]; omega
    · have hall : s.regs.take (t * 3) = s.regs := List.take_of_length_le (by rw [HL.out]; omega)
      rw [hall] at HO
      obtain ⟨r0, e0⟩ : ∃ r, s.mem[0]? = some r := ⟨_, List.getElem?_eq_getElem (by rw [HM.out]; omega)⟩
      obtain ⟨r1, e1⟩ : ∃ r, s.mem[1]? = some r := ⟨_, List.getElem?_eq_getElem (by rw [HM.out]; omega)⟩
      obtain ⟨r2, e2⟩ : ∃ r, s.mem[2]? = some r := ⟨_, List.getElem?_eq_getElem (by rw [HM.out]; omega)⟩
      have c0 := HMEM.out wr HB.out _ _ e0
      have c1 := HMEM.out wr HB.out _ _ e1
      have c2 := HMEM.out wr HB.out _ _ e2
      have HE := hid (And.intro e0 (And.intro e1 e2))
      have HLT := hid (fun (j : Nat) (hj : j ≤ 3) => show (s.regs ++ s.mem.take j).length ≤ 12 by rw [List.length_append, List.length_take, HL.out]; omega)
      clear e0 e1 e2 hall
      go_wp2_with fail
      clear c0 c1 c2
      go_loopw [3, 37] (fun v i wr => ∃ j : Nat, j ≤ 3 ∧ i = .int .i64 j ∧ Hid (wr.ownsRow w.heap.size 3 1 v (s.regs ++ s.mem.take j).length (ints (s.regs ++ s.mem.take j))) ∧ Hid (Below w.heap.size w wr)) (fun _ i _ => 3 - (intOf i).toNat)
      case atStart => exact ⟨0, by omega, rfl, hid (by simpa using HO.out), HB⟩
      case round =>
        obtain ⟨j, hj, rfl, HO2, HB2⟩ := hrel
        by_cases hj3 : j < 3
        · obtain ⟨y, hy, hry⟩ : ∃ y, [r0, r1, r2][j]? = some y ∧ s.mem[j]? = some y := by
            match j, hj3 with
            | 0, _ => exact ⟨r0, rfl, HE.out.1⟩
            | 1, _ => exact ⟨r1, rfl, HE.out.2.1⟩
            | 2, _ => exact ⟨r2, rfl, HE.out.2.2⟩
          have hix := fun w => run_index3 w r0 r1 r2 j y hy
          have hyb := HMB.out y (List.mem_of_getElem? hry)
          have HT := hid (show s.regs ++ s.mem.take (j + 1) = (s.regs ++ s.mem.take j) ++ [y] by rw [take_snoc hry, List.append_assoc])
          have hll := HLT.out j hj
          obtain ⟨L, eL⟩ : ∃ L, L = s.regs ++ s.mem.take j := ⟨_, rfl⟩
          rw [← eL] at HT hll HO2
          have hj3' : (j : Int) < 3 := by omega
          have hb2 := HB2.out.size
          clear hry hy eL
          go_wp2_with (at_builtin; refine wpList_append_one rfl (.tmp 40) (.tmp 43) 24 rfl w.heap.size 3 (.int .i64 0) 8 Try.underlying24 Try.info_int rfl _ _ _ rfl (HO2.out.alloc _) _ (.int .i64 y) rfl (by simp) rfl (by omega) (by omega) (by simp; omega) ?_)
          intro v1 w4 hown1 hgrow1
          have HO4 := hid (own_snoc (w := w) hown1)
          rw [← HT.out] at HO4
          have HB4 := hid ((HB2.out.alloc HB2.out.size _).grown hgrow1 (by simp; omega) (fun b hb => (HO2.out.lt b hb).1))
          clear hown1 hgrow1
          go_wp2_with fail
          go_roundw
          case rel => exact ⟨j + 1, by omega, by go_num, HO4, HB4⟩
          case measure => simp [intOf]; omega
        · obtain rfl : j = 3 := by omega
          have HO3 := hid (show wr.ownsRow w.heap.size 3 1 _ (out3 s).length (ints (out3 s)) by
            have : s.mem.take 3 = s.mem := List.take_of_length_le (by rw [HM.out]; omega)
            have h := HO2.out
            rw [this] at h
            exact h)
          obtain ⟨a1, cap1, rfl, _⟩ := own_shape HO3.out
          go_wp2
          go_ret
          exact ⟨_, _, rfl, HO3.out, HB2.out⟩
end Go.Proofs.Ythlmfjoiicnomaa
namespace Go.Proofs.Ythlmfjoiicnomaa
open Go.RowKit
set_option linter.unusedVariables false
set_option linter.unusedSimpArgs false

/-- The state s of a machine of type T, whose other cells are ex, lies at block g. -/
structure MAt (T : TypeId) (ex : List Value) (w : World) (g : Nat) (p : Prg) (s : St) : Prop where
  at_ : ∃ a cap, w.heap[g]? = some (.cells (valC a p.length cap s ++ ex).toArray T (0, 0)) ∧ RdP w a p
  good : Good p s
theorem MAt.v {T : TypeId} {ex : List Value} {w : World} {g : Nat} {p : Prg} {s : St} (h : MAt T ex w g p s) : VAt w g p s := by
  obtain ⟨⟨a, cap, h1, h2⟩, hg⟩ := h
  exact ⟨⟨a, cap, ex, T, h1, h2⟩, hg⟩
theorem MAt.below {T : TypeId} {ex : List Value} {w w' : World} {g : Nat} {p : Prg} {s : St} (h : MAt T ex w g p s) (hb : Below w.heap.size w w') : MAt T ex w' g p s := by
  obtain ⟨⟨a, cap, h1, h2⟩, hg⟩ := h
  exact ⟨⟨a, cap, by rw [hb.block g (Array.getElem?_eq_some_iff.1 h1).1]; exact h1, h2.below hb⟩, hg⟩
theorem valC_start (a : Option Addr) (n cap : Nat) (p : Prg) (hp : p.length ≤ 3) (b : Nat) : valC a n cap (start3 p b) = .slice a n cap :: List.replicate 15 (.int .u8 0) := by
  have e1 : pad 3 (List.replicate p.length 0) = List.replicate 3 0 := by
    unfold pad
    rw [List.length_replicate, ← List.replicate_append_replicate.symm]
    congr 1
    omega
  have e2 : pad 9 (List.replicate (p.length * 3) 0) = List.replicate 9 0 := by
    unfold pad
    rw [List.length_replicate, ← List.replicate_append_replicate.symm]
    congr 1
    omega
  unfold valC start3
  dsimp only
  rw [e1, e2]
  rfl

def movesTo (p : Prg) (s : St) (k : Nat) : List Int := ((List.range k).filter (goes p s)).map fun (t : Nat) => (t : Int)
theorem movesTo_succ (p : Prg) (s : St) (k : Nat) : movesTo p s (k + 1) = movesTo p s k ++ if goes p s k then [(k : Int)] else [] := by
  unfold movesTo
  rw [List.range_succ, List.filter_append, List.map_append]
  congr 1
  by_cases h : goes p s k = true
  · simp [h]
  · simp [h]
theorem movesTo_len (p : Prg) (s : St) (k : Nat) : (movesTo p s k).length ≤ k := by
  unfold movesTo
  rw [List.length_map]
  have := List.length_filter_le (goes p s) (List.range k)
  simpa using this

end Go.Proofs.Ythlmfjoiicnomaa
