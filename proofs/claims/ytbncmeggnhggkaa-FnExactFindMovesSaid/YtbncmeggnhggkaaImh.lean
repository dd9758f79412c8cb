/-
  PROVED HERE: words for the program's states; what (*values).next does. what (*values).stored, allDone do. what (*values).outcome does. what newSeq, (*seq).moves, done do. what (*seq).after does. what slices.Index, Contains do over numbers. what impl.follow and finished do, for any machine whose methods' contracts are known. what impl.RunSchedule does. CONDITIONS: as each theorem states.
-/
import Derived.Test.YtbncmeggnhggkaaBf
import Derived.Test.YtbncmeggnhggkaaSw
import Derived.Test.YtbncmeggnhggkaaVav
import Derived.Test.YtbncmeggnhggkaaOpn
import Derived.Test.YtbncmeggnhggkaaSpd
namespace Go.Proofs.Ytbncmeggnhggkaa
open Go.RowKit
set_option linter.unusedVariables false
set_option linter.unusedSimpArgs false

def pad (k : Nat) (xs : List Int) : List Int := xs ++ List.replicate (k - xs.length) 0
theorem length_pad {k : Nat} {xs : List Int} (h : xs.length ≤ k) : (pad k xs).length = k := by simp [pad]; omega
theorem pad_get {k : Nat} {xs : List Int} {i : Nat} {x : Int} (h : xs[i]? = some x) : (pad k xs)[i]? = some x := by
  unfold pad
  rw [List.getElem?_append_left (List.getElem?_eq_some_iff.1 h).1]
  exact h
theorem pad_set {k : Nat} {xs : List Int} {i : Nat} {x : Int} (h : i < xs.length) : (pad k xs).set i x = pad k (xs.set i x) := by
  unfold pad
  rw [List.set_append_left _ _ h, List.length_set]
abbrev b8s (xs : List Int) : List Value := xs.map (Value.int .u8)
/-- The cells of a state's values: the program, how far threads are, registers, memory. -/
def valC (a : Option Addr) (n cap : Nat) (s : St) : List Value := .slice a n cap :: (b8s (pad 3 s.pc) ++ (b8s (pad 9 s.regs) ++ b8s s.mem))
structure ValLen (s : St) : Prop where
  pc : s.pc.length ≤ 3
  regs : s.regs.length ≤ 9
  mem : s.mem.length = 3
theorem Good.vlen {p : Prg} {s : St} (h : Good p s) (hv : Shape p) : ValLen s := by
  have := hv.len
  have := h.pcl
  have := h.regl
  exact ⟨by omega, by omega, h.meml⟩
section
variable {a : Option Addr} {n cap : Nat} {s : St}
theorem length_valC (h : ValLen s) : (valC a n cap s).length = 16 := by
  simp [valC, length_pad h.pc, length_pad h.regs, h.mem]
theorem valC_pc (h : ValLen s) {t : Nat} {k : Int} (hk : s.pc[t]? = some k) : (valC a n cap s)[1 + t]? = some (.int .u8 k) := by
  have ht := (List.getElem?_eq_some_iff.1 hk).1
  have := h.pc
  unfold valC
  rw [Nat.add_comm, List.getElem?_cons_succ, List.getElem?_append_left (by simp [length_pad h.pc]; omega), List.getElem?_map, pad_get hk]
  rfl
theorem valC_reg (h : ValLen s) {i : Nat} {k : Int} (hk : s.regs[i]? = some k) : (valC a n cap s)[4 + i]? = some (.int .u8 k) := by
  have ht := (List.getElem?_eq_some_iff.1 hk).1
  have := h.regs
  unfold valC
  rw [show 4 + i = (3 + i) + 1 by omega, List.getElem?_cons_succ, List.getElem?_append_right (by simp [length_pad h.pc]), List.getElem?_append_left (by simp [length_pad h.pc, length_pad h.regs]; omega), List.getElem?_map]
  simp [length_pad h.pc, pad_get hk]
theorem valC_mem (h : ValLen s) {i : Nat} {k : Int} (hk : s.mem[i]? = some k) : (valC a n cap s)[13 + i]? = some (.int .u8 k) := by
  have ht := (List.getElem?_eq_some_iff.1 hk).1
  unfold valC
  rw [show 13 + i = (12 + i) + 1 by omega, List.getElem?_cons_succ, List.getElem?_append_right (by simp [length_pad h.pc]; omega), List.getElem?_append_right (by simp [length_pad h.pc, length_pad h.regs]; omega), List.getElem?_map]
  simp [length_pad h.pc, length_pad h.regs, show 12 + i - 3 - 9 = i by omega, hk]
theorem valC_setpc (h : ValLen s) {t : Nat} (ht : t < s.pc.length) (v : Int) : (valC a n cap s).set (1 + t) (.int .u8 v) = valC a n cap { s with pc := s.pc.set t v } := by
  have := h.pc
  unfold valC
  rw [Nat.add_comm, List.set_cons_succ, List.set_append_left _ _ (by simp [length_pad h.pc]; omega)]
  simp [b8s, ← List.map_set, pad_set ht]
theorem valC_setreg (h : ValLen s) {i : Nat} (ht : i < s.regs.length) (v : Int) : (valC a n cap s).set (4 + i) (.int .u8 v) = valC a n cap { s with regs := s.regs.set i v } := by
  have := h.regs
  unfold valC
  rw [show 4 + i = (3 + i) + 1 by omega, List.set_cons_succ, List.set_append_right _ _ (by simp [length_pad h.pc]), List.set_append_left _ _ (by simp [length_pad h.pc, length_pad h.regs]; omega)]
  simp [b8s, ← List.map_set, length_pad h.pc, pad_set ht]
theorem valC_setmem (h : ValLen s) {i : Nat} (v : Int) : (valC a n cap s).set (13 + i) (.int .u8 v) = valC a n cap { s with mem := s.mem.set i v } := by
  unfold valC
  rw [show 13 + i = (12 + i) + 1 by omega, List.set_cons_succ, List.set_append_right _ _ (by simp [length_pad h.pc]; omega), List.set_append_right _ _ (by simp [length_pad h.pc, length_pad h.regs]; omega)]
  simp [b8s, ← List.map_set, length_pad h.pc, length_pad h.regs, show 12 + i - 3 - 9 = i by omega]
end
/-- The state s of program p lies at block g (other cells may lie behind it). -/
structure VAt (w : World) (g : Nat) (p : Prg) (s : St) : Prop where
  at_ : ∃ a cap ex T, w.heap[g]? = some (.cells (valC a p.length cap s ++ ex).toArray T (0, 0)) ∧ RdP w a p
  good : Good p s
theorem VAt.below {w w' : World} {g : Nat} {p : Prg} {s : St} (h : VAt w g p s) (hb : Below w.heap.size w w') : VAt w' g p s := by
  obtain ⟨⟨a, cap, ex, T, h1, h2⟩, hg⟩ := h
  exact ⟨⟨a, cap, ex, T, by rw [hb.block g (Array.getElem?_eq_some_iff.1 h1).1]; exact h1, h2.below hb⟩, hg⟩
/-- The cells of a thread's state. -/
theorem VAt.cells {w : World} {g : Nat} {p : Prg} {s : St} (h : VAt w g p s) (hv : Shape p) : ∃ a cap, RdP w a p ∧ w.cell? ⟨g, 0, none⟩ = some (.slice a p.length cap) ∧ (∀ (t : Nat) (k : Int), s.pc[t]? = some k → w.cell? ⟨g, 1 + t, none⟩ = some (.int .u8 k)) ∧
    (∀ (i : Nat) (k : Int), s.regs[i]? = some k → w.cell? ⟨g, 4 + i, none⟩ = some (.int .u8 k)) ∧ (∀ (i : Nat) (k : Int), s.mem[i]? = some k → w.cell? ⟨g, 13 + i, none⟩ = some (.int .u8 k)) := by
  obtain ⟨⟨a, cap, ex, T, h1, h2⟩, hg⟩ := h
  have hl := hg.vlen hv
  have e := fun (j : Nat) (v : Value) (hj : (valC a p.length cap s)[j]? = some v) => show w.cell? ⟨g, j, none⟩ = some v from by
    rw [cell_of_row w g j _ _ _ h1]
    simp only [List.getElem?_toArray]
    rw [List.getElem?_append_left (List.getElem?_eq_some_iff.1 hj).1]
    exact hj
  exact ⟨a, cap, h2, e 0 _ rfl, fun t k hk => e _ _ (valC_pc hl hk), fun i k hk => e _ _ (valC_reg hl hk), fun i k hk => e _ _ (valC_mem hl hk)⟩

set_option maxHeartbeats 1600000 in
theorem next_c (w : World) (g : Nat) (p : Prg) (s : St) (t : Nat) (h : VAt w g p s) (hv : Shape p) (ht : t < p.length) :
    Calls Try.prog 124 #[.pointer (some ⟨g, 0, none⟩), .int .i64 t] w fun e w' => e = .returned (.tuple #[(if goes p s t then nxt p s t else insZ).v, .bool (goes p s t)]) ∧ Below w.heap.size w w' := by
  obtain ⟨a, cap, hrp, h0, hpc, _, _⟩ := h.cells hv
  obtain ⟨b, off, r, rc, xs, hab, hbl, hxs, hcell, hrx, hxl⟩ := hrp.at' t ht
  subst hab
  obtain ⟨k, hk, hkl⟩ := h.good.pcb t xs hxs
  have hc := hpc t _ hk
  have hn3 : p.length ≤ 3 := hv.len
  have h7 := hv.row t xs hxs
  have HG := hid (goes_of hxs hk)
  obtain ⟨n, hn⟩ : ∃ n, n = p.length := ⟨_, rfl⟩
  obtain ⟨m, hm⟩ : ∃ m, m = xs.length := ⟨_, rfl⟩
  rw [← hn] at h0 ht hn3
  rw [← hm] at hcell hkl h7 HG
  have ht3 : (t : Int) < 3 := by omega
  have hgl : g < w.heap.size := World.block_lt_of_cell? w ⟨g, 0, none⟩ h0
  have f := fun (j : Nat) (v : Value) (hj : w.cell? ⟨g, j, none⟩ = some v) => (((Below.refl w.heap.size w).alloc (Nat.le_refl _) (.cells #[.int .i64 0, .int .i64 0, .int .i64 0, .int .i64 0] 79)).cell (p := ⟨g, j, none⟩) hgl).trans hj
  by_cases hkm : k < m
  · have HX := hid (show ∃ x, xs[k]? = some x from ⟨_, List.getElem?_eq_getElem (by omega)⟩)
    obtain ⟨x, hx⟩ := HX.out
    obtain ⟨rb, ro, x', hra, hrl, hx', hins⟩ := hrx.ins k (by omega)
    obtain rfl : x = x' := by rw [hx] at hx'; exact Option.some.inj hx'
    subst hra
    have HNX := hid (nxt_of hxs hk hx)
    rw [decide_eq_true hkm] at HG
    have d0 : decide ((m : Int) ≤ (k : Int)) = false := decide_eq_false (by omega)
    have hB := (Below.refl w.heap.size w).alloc (Nat.le_refl _) (.cells #[.int .i64 0, .int .i64 0, .int .i64 0, .int .i64 0] 79)
    obtain ⟨i0, i1, i2, i3⟩ := hins.below (below_drewN 1 hB) hrl
    have hins' := hins
    rw [HG.out, HNX.out]
    obtain ⟨op, loc, reg, val⟩ := x
    clear hrp hpc hxs hxl hk HX hx hx' hn hm HG HNX hv h hrx
    obtain ⟨j0, j1, j2, j3⟩ := hins'
    go_enter Try.func124, Try.ntmps124
    go_wp2_with fail
    refine wp_region_mix (by kernel_rfl) (by kernel_rfl) ?_
    go_wp2_with (first | (with_reducible refine wpMix_nil ?_) | (with_reducible refine wpMix_rd rfl rfl (fun K hK => ?_); go_simp; (try go_bits); refine hK _ ?_; clear hK K))
    refine wp_region_mix (by kernel_rfl) (by kernel_rfl) ?_
    go_wp2_with (first | (with_reducible refine wpMix_nil ?_) | (with_reducible refine wpMix_rd rfl rfl (fun K hK => ?_); go_simp; (try go_bits); refine hK _ ?_; clear hK K) | (with_reducible refine wpMix_act (o := ⟨_, .store _ _ _, _, _, _, _⟩) rfl rfl (fun K hK => ?_)))
    exact bodyPost_ret (v := .tuple #[.agg #[.int .i64 op, .int .i64 loc, .int .i64 reg, .int .i64 val], .bool true]) (by simp [results, Try.results124, go_sem]) rfl ⟨rfl, below_drewN 2 ((Below.refl _ _).alloc (Nat.le_refl _) _)⟩
  · have d0 : decide ((m : Int) ≤ (k : Int)) = true := decide_eq_true (by omega)
    rw [decide_eq_false hkm] at HG
    rw [HG.out]
    clear hrp hpc hxs hxl hk hn hm HG hv h hrx
    go_enter Try.func124, Try.ntmps124
    go_wp2_with fail
    refine wp_region_mix (by kernel_rfl) (by kernel_rfl) ?_
    go_wp2_with (first | (with_reducible refine wpMix_nil ?_) | (with_reducible refine wpMix_rd rfl rfl (fun K hK => ?_); go_simp; (try go_bits); refine hK _ ?_; clear hK K) | (with_reducible refine wpMix_act (o := ⟨_, .store _ _ _, _, _, _, _⟩) rfl rfl (fun K hK => ?_)))
    exact bodyPost_ret (v := .tuple #[insZ.v, .bool false]) (by simp [results, Try.results124, go_sem, insZ]) rfl ⟨rfl, below_drewN 1 ((Below.refl _ _).alloc (Nat.le_refl _) _)⟩
end Go.Proofs.Ytbncmeggnhggkaa
namespace Go.Proofs.Ytbncmeggnhggkaa
open Go.RowKit
set_option linter.unusedVariables false
set_option linter.unusedSimpArgs false

theorem goes_thr {p : Prg} {s : St} (hg : Good p s) {t : Nat} (h : goes p s t = true) : t < p.length := by
  by_cases ht : t < p.length
  · exact ht
  · exfalso
    unfold goes at h
    simp only [decide_eq_true_eq, List.getD_eq_getElem?_getD] at h
    have e1 : p[t]? = none := List.getElem?_eq_none (by omega)
    have e2 : s.pc[t]? = none := List.getElem?_eq_none (by rw [hg.pcl]; omega)
    rw [e1, e2] at h
    simp at h

set_option maxHeartbeats 1600000 in
theorem stored_c (w : World) (g : Nat) (p : Prg) (s : St) (t : Nat) (x : Ins) (h : VAt w g p s) (hv : Shape p) (ht : t < p.length) (hx : insValid x = true) :
    Calls Try.prog 125 #[.pointer (some ⟨g, 0, none⟩), .int .i64 t, x.v] w fun e w' => e = .returned (.int .u8 (wval s t x)) ∧ Below w.heap.size w w' := by
  obtain ⟨a, cap, hrp, h0, _, hreg, _⟩ := h.cells hv
  obtain ⟨rn, hrn, hr2⟩ := valid_reg hx
  have hval := valid_val hx
  obtain ⟨op, loc, reg, val⟩ := x
  have hrn : reg = rn := hrn
  subst hrn
  have hval : 0 ≤ val ∧ val ≤ 3 := hval
  have hn3 : p.length ≤ 3 := hv.len
  have ht3 : (t : Int) < 3 := by omega
  have hr3 : (rn : Int) < 3 := by omega
  have hil : t * 3 + rn < s.regs.length := by rw [h.good.regl]; omega
  obtain ⟨rv, hrv⟩ : ∃ rv, s.regs[t * 3 + rn]? = some rv := ⟨_, List.getElem?_eq_getElem hil⟩
  have hc := hreg _ _ hrv
  rw [← Nat.add_assoc] at hc
  have hgl : g < w.heap.size := World.block_lt_of_cell? w ⟨g, 0, none⟩ h0
  have HW := hid (show wval s t ⟨op, loc, rn, val⟩ = if op = 3 then rv else val from by
    unfold wval
    simp [List.getD_eq_getElem?_getD, hrv])
  clear hreg hrp h hv hrv h0 hx
  by_cases h3 : op = 3
  · subst h3
    rw [if_pos rfl] at HW
    rw [HW.out]
    go_enter Try.func125, Try.ntmps125
    go_wp2_with fail
    refine wp_region_mix (by kernel_rfl) (by kernel_rfl) ?_
    go_wp2_with (first | (with_reducible refine wpMix_nil ?_) | (with_reducible refine wpMix_rd rfl rfl (fun K hK => ?_); go_simp; (try go_bits); refine hK _ ?_; clear hK K))
    go_ret
    exact ⟨rfl, below_drewN 1 ((Below.refl _ _).alloc (Nat.le_refl _) _)⟩
  · rw [if_neg h3] at HW
    rw [HW.out]
    have hw : IntKind.u8.wrap val = val := IntWalk.u8_in _ (by omega)
    go_enter Try.func125, Try.ntmps125
    go_wp2
    go_ret
    exact ⟨by first | rfl | rw [hw], (Below.refl _ _).alloc (Nat.le_refl _) _⟩

set_option maxHeartbeats 1600000 in
theorem allDone_c (w : World) (g : Nat) (p : Prg) (s : St) (h : VAt w g p s) (hv : Shape p) :
    Calls Try.prog 119 #[.pointer (some ⟨g, 0, none⟩)] w fun e w' => e = .returned (.bool (done3 p s)) ∧ Below w.heap.size w w' := by
  obtain ⟨a, cap, hrp, h0, _, _, _⟩ := h.cells hv
  have HAT := hid h
  have HNX := hid (fun w (h : VAt w g p s) (t : Nat) (ht : t < p.length) => next_c w g p s t h hv ht)
  obtain ⟨n, hn⟩ : ∃ n, n = p.length := ⟨_, rfl⟩
  have hn3 : n ≤ 3 := by rw [hn]; exact hv.len
  rw [← hn] at h0 HNX
  have hgl : g < w.heap.size := World.block_lt_of_cell? w ⟨g, 0, none⟩ h0
  have HNO := hid (fun t (h : goes p s t = true) (ht : t < n) => show done3 p s = false from by
    unfold done3
    rw [List.all_eq_false]
    exact ⟨t, List.mem_range.2 (by omega), by simp [h]⟩)
  have HYES := hid (fun (h : ∀ t, t < n → goes p s t = false) => show done3 p s = true from by
    unfold done3
    rw [List.all_eq_true]
    intro t ht
    rw [h t (by have := List.mem_range.1 ht; omega)]; rfl)
  clear hn h hv hrp
  go_enter Try.func119, Try.ntmps119
  go_wp2_with fail
  go_loopw [11] (fun i wr => ∃ k : Nat, k ≤ n ∧ i = .int .i64 k ∧ Hid (∀ t, t < k → goes p s t = false) ∧ Hid (Below w.heap.size w wr)) (fun i _ => n - (intOf i).toNat)
  case atStart => exact ⟨0, Nat.zero_le _, rfl, hid (fun t ht => by omega), hid (Below.refl _ _)⟩
  case round =>
    obtain ⟨k, hk, rfl, HK, HB⟩ := hrel
    by_cases hlt : k < n
    · have HC := hid (HNX.out wr (HAT.out.below HB.out) k hlt)
      by_cases hgo : goes p s k = true
      · have HF := hid (HNO.out k hgo hlt)
        rw [hgo] at HC
        clear hgo
        go_wp2_with fail
        refine HC.out.mono ?_
        rintro e w2 ⟨rfl, hb2⟩
        have HB2 := hid (HB.out.trans (hb2.mono HB.out.size))
        clear hb2
        go_wp2
        go_ret
        exact ⟨ret_bool HF.out.symm, (HB2.out.alloc HB2.out.size _)⟩
      · have hgo : goes p s k = false := by simpa using hgo
        have HGO := hid hgo
        rw [hgo] at HC
        clear hgo
        go_wp2_with fail
        refine HC.out.mono ?_
        rintro e w2 ⟨rfl, hb2⟩
        have HB2 := hid (HB.out.trans (hb2.mono HB.out.size))
        clear hb2
        go_wp2_with fail
        go_roundw
        case rel => exact ⟨k + 1, by omega, by go_num, hid (fun t ht => by
          by_cases e : t = k
          · rw [e]; exact HGO.out
          · exact HK.out t (by omega)), hid (HB2.out.alloc HB2.out.size _)⟩
        case measure => simp [intOf]; omega
    · go_wp2
      go_ret
      exact ⟨ret_bool (HYES.out fun t ht => HK.out t (by omega)).symm, HB.out⟩
end Go.Proofs.Ytbncmeggnhggkaa
namespace Go.Proofs.Ytbncmeggnhggkaa
open Go.RowKit
set_option linter.unusedVariables false
set_option linter.unusedSimpArgs false

theorem run_index3_0 (w : World) (x0 x1 x2 : Int) : (Instr.index 89 (.agg #[.int .u8 x0, .int .u8 x1, .int .u8 x2]) (.int .i64 0)).run Try.prog w = .ok (.int .u8 x0) w := by kernel_rfl
theorem run_index3_1 (w : World) (x0 x1 x2 : Int) : (Instr.index 89 (.agg #[.int .u8 x0, .int .u8 x1, .int .u8 x2]) (.int .i64 1)).run Try.prog w = .ok (.int .u8 x1) w := by kernel_rfl
theorem run_index3_2 (w : World) (x0 x1 x2 : Int) : (Instr.index 89 (.agg #[.int .u8 x0, .int .u8 x1, .int .u8 x2]) (.int .i64 2)).run Try.prog w = .ok (.int .u8 x2) w := by kernel_rfl
theorem run_index3 (w : World) (x0 x1 x2 : Int) (k : Nat) (y : Int) (h : [x0, x1, x2][k]? = some y) : (Instr.index 89 (.agg #[.int .u8 x0, .int .u8 x1, .int .u8 x2]) (.int .i64 (k : Int))).run Try.prog w = .ok (.int .u8 y) w := by
  match k, h with
  | 0, h => simp at h; subst h; exact run_index3_0 w _ _ _
  | 1, h => simp at h; subst h; exact run_index3_1 w _ _ _
  | 2, h => simp at h; subst h; exact run_index3_2 w _ _ _
  | k + 3, h => simp at h

/-- Append of one number, behind a new block that holds it. -/
theorem own_snoc {w w' : World} {base : Nat} {v : Value} {xs : List Int} {x : Int} (h : w'.ownsRow base 3 1 v (xs.length + 1) (ints xs ++ [.int .i64 x])) : w'.ownsRow base 3 1 v (xs ++ [x]).length (ints (xs ++ [x])) := by
  rw [List.length_append]
  simpa [ints] using h

set_option maxRecDepth 100000 in
set_option maxHeartbeats 3200000 in
theorem outcome_c (w : World) (g : Nat) (p : Prg) (s : St) (h : VAt w g p s) (hv : Shape p) :
    Calls Try.prog 123 #[.pointer (some ⟨g, 0, none⟩)] w (RetL w (out3 s)) := by
  obtain ⟨a, cap, hrp, h0, _, hreg, hmem⟩ := h.cells hv
  have hgl : g < w.heap.size := World.block_lt_of_cell? w ⟨g, 0, none⟩ h0
  have HL := hid h.good.regl
  have HM := hid h.good.meml
  have HRB := hid h.good.regb
  have HMB := hid h.good.memb
  obtain ⟨n, hn⟩ : ∃ n, n = p.length := ⟨_, rfl⟩
  have hn3 : n ≤ 3 := by rw [hn]; exact hv.len
  rw [← hn] at h0 HL
  have HREG := hid (fun (wr : World) (hb : Below w.heap.size w wr) (i : Nat) (k : Int) (hi : s.regs[i]? = some k) => (hb.cell (p := ⟨g, 4 + i, none⟩) hgl).trans (hreg i k hi))
  have HMEM := hid (fun (wr : World) (hb : Below w.heap.size w wr) (i : Nat) (k : Int) (hi : s.mem[i]? = some k) => (hb.cell (p := ⟨g, 13 + i, none⟩) hgl).trans (hmem i k hi))
  clear hreg hmem hrp hv h hn
  go_enter Try.func123, Try.ntmps123
  go_wp2_with fail
  go_loopw [3, 14] (fun v i wr => ∃ t : Nat, t ≤ n ∧ i = .int .i64 t ∧ Hid (wr.ownsRow w.heap.size 3 1 v (s.regs.take (t * 3)).length (ints (s.regs.take (t * 3)))) ∧ Hid (Below w.heap.size w wr)) (fun _ i _ => n - (intOf i).toNat)
  case atStart => exact ⟨0, Nat.zero_le _, rfl, hid (by simpa using own_none w w.heap.size 3 1), hid (Below.refl _ _)⟩
  case round =>
    obtain ⟨t, ht, rfl, HO, HB⟩ := hrel
    by_cases hlt : t < n
    · obtain ⟨r0, e0⟩ : ∃ r, s.regs[t * 3]? = some r := ⟨_, List.getElem?_eq_getElem (by rw [HL.out]; omega)⟩
      obtain ⟨r1, e1⟩ : ∃ r, s.regs[t * 3 + 1]? = some r := ⟨_, List.getElem?_eq_getElem (by rw [HL.out]; omega)⟩
      obtain ⟨r2, e2⟩ : ∃ r, s.regs[t * 3 + 2]? = some r := ⟨_, List.getElem?_eq_getElem (by rw [HL.out]; omega)⟩
      have c0 := HREG.out wr HB.out _ _ e0
      have c1 := HREG.out wr HB.out _ _ e1
      have c2 := HREG.out wr HB.out _ _ e2
      rw [← Nat.add_assoc] at c1 c2
      have HE := hid (And.intro e0 (And.intro e1 e2))
      have ht3 : (t : Int) < 3 := by omega
      have HLT := hid (fun (j : Nat) (hj : j ≤ 3) => show (s.regs.take (t * 3 + j)).length ≤ 12 by rw [List.length_take, HL.out]; omega)
      clear e0 e1 e2
      go_wp2_with fail
      clear c0 c1 c2
      go_loopw [3, 23] (fun v i wr => ∃ j : Nat, j ≤ 3 ∧ i = .int .i64 j ∧ Hid (wr.ownsRow w.heap.size 3 1 v (s.regs.take (t * 3 + j)).length (ints (s.regs.take (t * 3 + j)))) ∧ Hid (Below w.heap.size w wr)) (fun _ i _ => 3 - (intOf i).toNat)
      case atStart => exact ⟨0, by omega, rfl, HO, HB⟩
      case round =>
        obtain ⟨j, hj, rfl, HO2, HB2⟩ := hrel
        by_cases hj3 : j < 3
        · obtain ⟨y, hy, hry⟩ : ∃ y, [r0, r1, r2][j]? = some y ∧ s.regs[t * 3 + j]? = some y := by
            match j, hj3 with
            | 0, _ => exact ⟨r0, rfl, HE.out.1⟩
            | 1, _ => exact ⟨r1, rfl, HE.out.2.1⟩
            | 2, _ => exact ⟨r2, rfl, HE.out.2.2⟩
          have hix := fun w => run_index3 w r0 r1 r2 j y hy
          have HY := hid hry
          have hyb := HRB.out y (List.mem_of_getElem? hry)
          have HT := hid (take_snoc hry)
          have hll := HLT.out j hj
          obtain ⟨L, eL⟩ : ∃ L, L = s.regs.take (t * 3 + j) := ⟨_, rfl⟩
          rw [← eL] at HT hll HO2
          have hj3' : (j : Int) < 3 := by omega
          have hb2 := HB2.out.size
          clear hry hy eL
          go_wp2_with (at_builtin; refine wpList_append_one rfl (.tmp 26) (.tmp 29) 23 rfl w.heap.size 3 (.int .i64 0) 8 Try.underlying23 Try.info_int rfl _ _ _ rfl (HO2.out.alloc _) _ (.int .i64 y) rfl (by simp) rfl (by omega) (by omega) (by simp; omega) ?_)
          intro v1 w4 hown1 hgrow1
          have HO4 := hid (own_snoc (w := w) hown1)
          rw [← HT.out] at HO4
          have HB4 := hid ((HB2.out.alloc HB2.out.size _).grown hgrow1 (by simp; omega) (fun b hb => (HO2.out.lt b hb).1))
          clear hown1 hgrow1
          go_wp2_with fail
          go_roundw
          case rel => exact ⟨j + 1, by omega, by go_num, HO4, HB4⟩
          case measure => simp [intOf]; omega
        · obtain rfl : j = 3 := by omega
          have HO3 := hid (show wr.ownsRow w.heap.size 3 1 _ (s.regs.take ((t + 1) * 3)).length (ints (s.regs.take ((t + 1) * 3))) by rw [show (t + 1) * 3 = t * 3 + 3 by omega]; exact HO2.out)
          go_wp2_with fail
          go_roundw
          case rel => exact ⟨t + 1, by omega, by go_num, HO3, HB2⟩
          case measure => simp [intOf]; omega
    · have hall : s.regs.take (t * 3) = s.regs := List.take_of_length_le (by rw [HL.out]; omega)
      rw [hall] at HO
      obtain ⟨r0, e0⟩ : ∃ r, s.mem[0]? = some r := ⟨_, List.getElem?_eq_getElem (by rw [HM.out]; omega)⟩
      obtain ⟨r1, e1⟩ : ∃ r, s.mem[1]? = some r := ⟨_, List.getElem?_eq_getElem (by rw [HM.out]; omega)⟩
      obtain ⟨r2, e2⟩ : ∃ r, s.mem[2]? = some r := ⟨_, List.getElem?_eq_getElem (by rw [HM.out]; omega)⟩
      have c0 := HMEM.out wr HB.out _ _ e0
      have c1 := HMEM.out wr HB.out _ _ e1
      have c2 := HMEM.out wr HB.out _ _ e2
      have HE := hid (And.intro e0 (And.intro e1 e2))
      have HLT := hid (fun (j : Nat) (hj : j ≤ 3) => show (s.regs ++ s.mem.take j).length ≤ 12 by rw [List.length_append, List.length_take, HL.out]; omega)
      clear e0 e1 e2 hall
      go_wp2_with fail
      clear c0 c1 c2
      go_loopw [3, 37] (fun v i wr => ∃ j : Nat, j ≤ 3 ∧ i = .int .i64 j ∧ Hid (wr.ownsRow w.heap.size 3 1 v (s.regs ++ s.mem.take j).length (ints (s.regs ++ s.mem.take j))) ∧ Hid (Below w.heap.size w wr)) (fun _ i _ => 3 - (intOf i).toNat)
      case atStart => exact ⟨0, by omega, rfl, hid (by simpa using HO.out), HB⟩
      case round =>
        obtain ⟨j, hj, rfl, HO2, HB2⟩ := hrel
        by_cases hj3 : j < 3
        · obtain ⟨y, hy, hry⟩ : ∃ y, [r0, r1, r2][j]? = some y ∧ s.mem[j]? = some y := by
            match j, hj3 with
            | 0, _ => exact ⟨r0, rfl, HE.out.1⟩
            | 1, _ => exact ⟨r1, rfl, HE.out.2.1⟩
            | 2, _ => exact ⟨r2, rfl, HE.out.2.2⟩
          have hix := fun w => run_index3 w r0 r1 r2 j y hy
          have hyb := HMB.out y (List.mem_of_getElem? hry)
          have HT := hid (show s.regs ++ s.mem.take (j + 1) = (s.regs ++ s.mem.take j) ++ [y] by rw [take_snoc hry, List.append_assoc])
          have hll := HLT.out j hj
          obtain ⟨L, eL⟩ : ∃ L, L = s.regs ++ s.mem.take j := ⟨_, rfl⟩
          rw [← eL] at HT hll HO2
          have hj3' : (j : Int) < 3 := by omega
          have hb2 := HB2.out.size
          clear hry hy eL
          go_wp2_with (at_builtin; refine wpList_append_one rfl (.tmp 40) (.tmp 43) 23 rfl w.heap.size 3 (.int .i64 0) 8 Try.underlying23 Try.info_int rfl _ _ _ rfl (HO2.out.alloc _) _ (.int .i64 y) rfl (by simp) rfl (by omega) (by omega) (by simp; omega) ?_)
          intro v1 w4 hown1 hgrow1
          have HO4 := hid (own_snoc (w := w) hown1)
          rw [← HT.out] at HO4
          have HB4 := hid ((HB2.out.alloc HB2.out.size _).grown hgrow1 (by simp; omega) (fun b hb => (HO2.out.lt b hb).1))
          clear hown1 hgrow1
          go_wp2_with fail
          go_roundw
          case rel => exact ⟨j + 1, by omega, by go_num, HO4, HB4⟩
          case measure => simp [intOf]; omega
        · obtain rfl : j = 3 := by omega
          have HO3 := hid (show wr.ownsRow w.heap.size 3 1 _ (out3 s).length (ints (out3 s)) by
            have : s.mem.take 3 = s.mem := List.take_of_length_le (by rw [HM.out]; omega)
            have h := HO2.out
            rw [this] at h
            exact h)
          obtain ⟨a1, cap1, rfl, _⟩ := own_shape HO3.out
          go_wp2
          go_ret
          exact ⟨_, _, rfl, HO3.out, HB2.out⟩
end Go.Proofs.Ytbncmeggnhggkaa
namespace Go.Proofs.Ytbncmeggnhggkaa
open Go.RowKit
set_option linter.unusedVariables false
set_option linter.unusedSimpArgs false

/-- The state s of a machine of type T, whose other cells are ex, lies at block g. -/
structure MAt (T : TypeId) (ex : List Value) (w : World) (g : Nat) (p : Prg) (s : St) : Prop where
  at_ : ∃ a cap, w.heap[g]? = some (.cells (valC a p.length cap s ++ ex).toArray T (0, 0)) ∧ RdP w a p
  good : Good p s
theorem MAt.v {T : TypeId} {ex : List Value} {w : World} {g : Nat} {p : Prg} {s : St} (h : MAt T ex w g p s) : VAt w g p s := by
  obtain ⟨⟨a, cap, h1, h2⟩, hg⟩ := h
  exact ⟨⟨a, cap, ex, T, h1, h2⟩, hg⟩
theorem MAt.below {T : TypeId} {ex : List Value} {w w' : World} {g : Nat} {p : Prg} {s : St} (h : MAt T ex w g p s) (hb : Below w.heap.size w w') : MAt T ex w' g p s := by
  obtain ⟨⟨a, cap, h1, h2⟩, hg⟩ := h
  exact ⟨⟨a, cap, by rw [hb.block g (Array.getElem?_eq_some_iff.1 h1).1]; exact h1, h2.below hb⟩, hg⟩
theorem valC_start (a : Option Addr) (n cap : Nat) (p : Prg) (hp : p.length ≤ 3) (b : Nat) : valC a n cap (start3 p b) = .slice a n cap :: List.replicate 15 (.int .u8 0) := by
  have e1 : pad 3 (List.replicate p.length 0) = List.replicate 3 0 := by
    unfold pad
    rw [List.length_replicate, ← List.replicate_append_replicate.symm]
    congr 1
    omega
  have e2 : pad 9 (List.replicate (p.length * 3) 0) = List.replicate 9 0 := by
    unfold pad
    rw [List.length_replicate, ← List.replicate_append_replicate.symm]
    congr 1
    omega
  unfold valC start3
  dsimp only
  rw [e1, e2]
  rfl

theorem newSeq_c (w : World) (a : Option Addr) (cap : Nat) (p : Prg) (h : RdP w a p) (hv : Shape p) :
    Calls Try.prog 41 #[.slice a p.length cap] w fun e w' => e = .returned (.iface 88 (.pointer (some ⟨w.heap.size, 0, none⟩))) ∧ MAt 94 [] w' w.heap.size p (start3 p 0) ∧ Below w.heap.size w w' := by
  have HV := hid (valC_start a p.length cap p hv.len 0)
  have HG := hid (good_start p 0)
  have HP := hid h
  obtain ⟨n, hn⟩ : ∃ n, n = p.length := ⟨_, rfl⟩
  have HN := hid hn
  rw [← hn] at HV ⊢
  clear hn h hv
  go_enter Try.func41, Try.ntmps41
  go_wp2
  go_ret
  refine ⟨rfl, ⟨⟨a, cap, ?_, ?_⟩, HG.out⟩, (Below.refl _ _).alloc (Nat.le_refl _) _⟩
  · rw [← HN.out, HV.out]
    exact heap_alloc_new w _
  · exact HP.out.below ((Below.refl _ _).alloc (Nat.le_refl _) _)

def movesTo (p : Prg) (s : St) (k : Nat) : List Int := ((List.range k).filter (goes p s)).map fun (t : Nat) => (t : Int)
theorem movesTo_succ (p : Prg) (s : St) (k : Nat) : movesTo p s (k + 1) = movesTo p s k ++ if goes p s k then [(k : Int)] else [] := by
  unfold movesTo
  rw [List.range_succ, List.filter_append, List.map_append]
  congr 1
  by_cases h : goes p s k = true
  · simp [h]
  · simp [h]
theorem movesTo_len (p : Prg) (s : St) (k : Nat) : (movesTo p s k).length ≤ k := by
  unfold movesTo
  rw [List.length_map]
  have := List.length_filter_le (goes p s) (List.range k)
  simpa using this

set_option maxHeartbeats 1600000 in
theorem seqMoves_c (w : World) (g : Nat) (p : Prg) (s : St) (h : VAt w g p s) (hv : Shape p) :
    Calls Try.prog 122 #[.pointer (some ⟨g, 0, none⟩)] w (RetL w (moves3 p s)) := by
  obtain ⟨a, cap, hrp, h0, _, _, _⟩ := h.cells hv
  have HAT := hid h
  have HNX := hid (fun w (h : VAt w g p s) (t : Nat) (ht : t < p.length) => next_c w g p s t h hv ht)
  have HM := hid (show movesTo p s p.length = moves3 p s from rfl)
  have HL := hid (movesTo_len p s)
  have HS := hid (movesTo_succ p s)
  obtain ⟨n, hn⟩ : ∃ n, n = p.length := ⟨_, rfl⟩
  have hn3 : n ≤ 3 := by rw [hn]; exact hv.len
  rw [← hn] at h0 HNX HM
  have hgl : g < w.heap.size := World.block_lt_of_cell? w ⟨g, 0, none⟩ h0
  clear hn h hv hrp
  rw [← HM.out]
  go_enter Try.func122, Try.ntmps122
  go_wp2_with fail
  go_loopw [3, 13] (fun v i wr => ∃ k : Nat, k ≤ n ∧ i = .int .i64 k ∧ Hid (wr.ownsRow w.heap.size 3 1 v (movesTo p s k).length (ints (movesTo p s k))) ∧ Hid (Below w.heap.size w wr)) (fun _ i _ => n - (intOf i).toNat)
  case atStart => exact ⟨0, Nat.zero_le _, rfl, hid (by simpa [movesTo] using own_none w w.heap.size 3 1), hid (Below.refl _ _)⟩
  case round =>
    obtain ⟨k, hk, rfl, HO, HB⟩ := hrel
    by_cases hlt : k < n
    · have HC := hid (HNX.out wr (HAT.out.below HB.out) k hlt)
      have HSK := hid (HS.out k)
      have hll := HL.out k
      by_cases hgo : goes p s k = true
      · rw [hgo, if_pos rfl] at HSK
        rw [hgo] at HC
        simp only [↓reduceIte] at HC
        obtain ⟨x, hx⟩ : ∃ x, x = nxt p s k := ⟨_, rfl⟩
        rw [← hx] at HC
        clear hx
        obtain ⟨op, loc, reg, val⟩ := x
        obtain ⟨L, eL⟩ : ∃ L, L = movesTo p s k := ⟨_, rfl⟩
        rw [← eL] at HSK hll HO
        clear hgo eL
        go_wp2_with fail
        refine HC.out.mono ?_
        rintro e w2 ⟨rfl, hb2⟩
        have HB2 := hid ((HB.out.trans (hb2.mono HB.out.size)).alloc (by have := hb2.size; have := HB.out.size; omega) (.cells #[.int .i64 op, .int .i64 loc, .int .i64 reg, .int .i64 val] 79))
        obtain ⟨a1, cap1, rfl, _⟩ := own_shape HO.out
        have HO2 := hid (World.ownsRow.alloc (own_below HO.out hb2) (.cells #[.int .i64 op, .int .i64 loc, .int .i64 reg, .int .i64 val] 79))
        have hs2 := hb2.size
        have hs1 := HB.out.size
        clear hb2
        go_wp2_with (at_builtin; refine wpList_append_one rfl (.tmp 25) (.tmp 27) 23 rfl w.heap.size 3 (.int .i64 0) 8 Try.underlying23 Try.info_int rfl _ _ _ rfl (HO2.out.alloc _) _ (.int .i64 k) rfl (by simp) rfl (by omega) (by omega) (by simp; omega) ?_)
        intro v1 w4 hown1 hgrow1
        have HO4 := hid (own_snoc (w := w) hown1)
        rw [← HSK.out] at HO4
        have HB4 := hid ((HB2.out.alloc HB2.out.size _).grown hgrow1 (by simp; omega) (fun b hb => (HO2.out.lt b hb).1))
        clear hown1 hgrow1
        go_wp2_with fail
        go_roundw
        case rel => exact ⟨k + 1, by omega, by go_num, HO4, HB4⟩
        case measure => simp [intOf]; omega
      · have hgo : goes p s k = false := by simpa using hgo
        rw [hgo, if_neg (by decide), List.append_nil] at HSK
        rw [hgo] at HC
        simp only [Bool.false_eq_true, ↓reduceIte] at HC
        clear hgo
        go_wp2_with fail
        refine HC.out.mono ?_
        rintro e w2 ⟨rfl, hb2⟩
        have HB2 := hid (HB.out.trans (hb2.mono HB.out.size))
        have HO2 := hid (own_below HO.out hb2)
        have HO3 := hid (HO2.out.alloc (.cells #[.int .i64 0, .int .i64 0, .int .i64 0, .int .i64 0] 79))
        rw [← HSK.out] at HO3
        clear hb2
        go_wp2_with fail
        go_roundw
        case rel => exact ⟨k + 1, by omega, by go_num, HO3, hid (HB2.out.alloc HB2.out.size _)⟩
        case measure => simp [intOf]; omega
    · obtain rfl : k = n := by omega
      obtain ⟨a1, cap1, rfl, _⟩ := own_shape HO.out
      go_wp2
      go_ret
      exact ⟨_, _, rfl, HO.out, HB.out⟩

theorem seqDone_c (w : World) (g : Nat) (p : Prg) (s : St) (h : VAt w g p s) (hv : Shape p) :
    Calls Try.prog 120 #[.pointer (some ⟨g, 0, none⟩)] w fun e w' => e = .returned (.bool (done3 p s)) ∧ Below w.heap.size w w' := by
  have HD := hid (allDone_c w g p s h hv)
  clear h hv
  go_enter Try.func120, Try.ntmps120
  go_wp2_with fail
  refine HD.out.mono ?_
  rintro e w2 ⟨rfl, hb2⟩
  go_wp2
  go_ret
  exact ⟨rfl, hb2⟩
end Go.Proofs.Ytbncmeggnhggkaa
namespace Go.Proofs.Ytbncmeggnhggkaa
open Go.RowKit
set_option linter.unusedVariables false
set_option linter.unusedSimpArgs false

/-- In the middle of a step: the copy lies at block B and holds sk now. -/
structure AfI (w : World) (B : Nat) (a : Option Addr) (n cap : Nat) (ex : List Value) (T : TypeId) (sk : St) (wk : World) : Prop where
  cur : wk.heap[B]? = some (.cells (valC a n cap sk ++ ex).toArray T (0, 0))
  len : ValLen sk
  below : Below w.heap.size w wk
  wb : w.heap.size ≤ B
section
variable {w wk wk' : World} {B : Nat} {a : Option Addr} {n cap : Nat} {ex : List Value} {T : TypeId} {sk : St}
theorem AfI.later (h : AfI w B a n cap ex T sk wk) (hb : Below wk.heap.size wk wk') : AfI w B a n cap ex T sk wk' :=
  ⟨by rw [hb.block B (Array.getElem?_eq_some_iff.1 h.cur).1]; exact h.cur, h.len, h.below.trans (hb.mono h.below.size), h.wb⟩
theorem AfI.drew (h : AfI w B a n cap ex T sk wk) : AfI w B a n cap ex T sk wk.drew := h.later (below_drewN 1 (Below.refl _ _))
theorem AfI.lt (h : AfI w B a n cap ex T sk wk) : B < wk.heap.size := (Array.getElem?_eq_some_iff.1 h.cur).1
theorem AfI.setCell (h : AfI w B a n cap ex T sk wk) {j : Nat} {v : Value} (hj : j < 16) {sk' : St} (hl : ValLen sk') (he : (valC a n cap sk).set j v = valC a n cap sk') : AfI w B a n cap ex T sk' (wk.setCell ⟨B, j, none⟩ v) := by
  refine ⟨?_, hl, h.below.setCell h.wb _, h.wb⟩
  rw [heap_setCell_same wk B j _ _ v h.cur, ← he]
  congr 2
  rw [List.setIfInBounds_toArray, List.set_append_left _ _ (by rw [length_valC h.len]; exact hj)]
theorem ValLen.setpc (h : ValLen sk) (t : Nat) (v : Int) : ValLen { sk with pc := sk.pc.set t v } := ⟨by simpa using h.pc, h.regs, h.mem⟩
theorem ValLen.setreg (h : ValLen sk) (t : Nat) (v : Int) : ValLen { sk with regs := sk.regs.set t v } := ⟨h.pc, by simpa using h.regs, h.mem⟩
theorem ValLen.setmem (h : ValLen sk) (t : Nat) (v : Int) : ValLen { sk with mem := sk.mem.set t v } := ⟨h.pc, h.regs, by simpa using h.mem⟩
theorem AfI.setpc (h : AfI w B a n cap ex T sk wk) {t : Nat} (ht : t < sk.pc.length) (v : Int) : AfI w B a n cap ex T { sk with pc := sk.pc.set t v } (wk.setCell ⟨B, 1 + t, none⟩ (.int .u8 v)) :=
  h.setCell (by have := h.len.pc; omega) (h.len.setpc t v) (valC_setpc h.len ht v)
theorem AfI.setreg (h : AfI w B a n cap ex T sk wk) {i : Nat} (ht : i < sk.regs.length) (v : Int) : AfI w B a n cap ex T { sk with regs := sk.regs.set i v } (wk.setCell ⟨B, 4 + i, none⟩ (.int .u8 v)) :=
  h.setCell (by have := h.len.regs; omega) (h.len.setreg i v) (valC_setreg h.len ht v)
theorem AfI.setmem (h : AfI w B a n cap ex T sk wk) {l : Nat} (ht : l < 3) (v : Int) : AfI w B a n cap ex T { sk with mem := sk.mem.set l v } (wk.setCell ⟨B, 13 + l, none⟩ (.int .u8 v)) :=
  h.setCell (by omega) (h.len.setmem l v) (valC_setmem h.len v)
theorem AfI.cell (h : AfI w B a n cap ex T sk wk) {j : Nat} {v : Value} (hj : (valC a n cap sk)[j]? = some v) : wk.cell? ⟨B, j, none⟩ = some v := by
  rw [cell_of_row wk B j _ _ _ h.cur, List.getElem?_toArray, List.getElem?_append_left (List.getElem?_eq_some_iff.1 hj).1]
  exact hj
theorem AfI.free (h : AfI w B a n cap ex T sk wk) (j : Nat) : wk.frozen? ⟨B, j, none⟩ = false := frozen_of_row wk B j _ _ h.cur
end

abbrev z16 : Array Value := #[.slice none 0 0, .int .u8 0, .int .u8 0, .int .u8 0, .int .u8 0, .int .u8 0, .int .u8 0, .int .u8 0, .int .u8 0, .int .u8 0, .int .u8 0, .int .u8 0, .int .u8 0, .int .u8 0, .int .u8 0, .int .u8 0]
set_option maxRecDepth 100000 in
set_option maxHeartbeats 3200000 in
theorem seqAfter_c (w : World) (g : Nat) (p : Prg) (s : St) (t : Nat) (h : MAt 94 [] w g p s) (hv : Shape p) (hgo : goes p s t = true) :
    Calls Try.prog 118 #[.pointer (some ⟨g, 0, none⟩), .int .i64 t] w fun e w' => ∃ b, e = .returned (.iface 88 (.pointer (some ⟨b, 0, none⟩))) ∧ MAt 94 [] w' b p (do3 p s t) ∧ Below w.heap.size w w' := by
  have ht := goes_thr h.good hgo
  obtain ⟨xs, k, x, hxs, hk, hx, hiv, hnx, hk7⟩ := h.good.next hv hgo
  have hvl := h.good.vlen hv
  have HAT := hid h.v
  have HV := hid hv
  have HNX := hid (fun w (h : VAt w g p s) => next_c w g p s t h hv ht)
  have HST := hid (fun w (h : VAt w g p s) => stored_c w g p s t x h hv ht hiv)
  have HRE := hid (fun w => readsI_c w x)
  have HWR := hid (fun w => writesI_c w x)
  obtain ⟨⟨a, cap, hg, hrp⟩, hgd⟩ := h
  have hn3 : p.length ≤ 3 := hv.len
  obtain ⟨ln, hln, hl2⟩ := valid_loc hiv
  obtain ⟨rn, hrn, hr2⟩ := valid_reg hiv
  have hval := valid_val hiv
  have hwb := hgd.wv (t := t) hiv
  obtain ⟨mv, hmv⟩ : ∃ mv, s.mem[ln]? = some mv := ⟨_, List.getElem?_eq_getElem (by rw [hgd.meml]; omega)⟩
  have hil : t * 3 + rn < s.regs.length := by rw [hgd.regl]; omega
  have htl : t < s.pc.length := by rw [hgd.pcl]; exact ht
  have hcm : ∀ wk, Below w.heap.size w wk → wk.cell? ⟨g, 13 + ln, none⟩ = some (.int .u8 mv) := fun wk hb => by
    obtain ⟨_, _, _, _, _, _, hm⟩ := (HAT.out.below hb).cells hv
    exact hm ln mv hmv
  have HCM := hid hcm
  obtain ⟨wv, hwv⟩ : ∃ wv, wv = wval s t x := ⟨_, rfl⟩
  rw [← hwv] at HST hwb
  have HDO := hid (show do3 p s t = { pc := s.pc.set t ((k : Int) + 1), regs := if insReads x then s.regs.set (t * 3 + rn) mv else s.regs, mem := if insWrites x then s.mem.set ln wv else s.mem, buf := s.buf } from by
    unfold do3
    rw [hnx, hwv, hrn, hln]
    simp [List.getD_eq_getElem?_getD, hk, hmv])
  have HGD := hid (hgd.do3 hv hgo)
  have HRP := hid hrp
  rw [hgo, hnx] at HNX
  simp only [↓reduceIte] at HNX
  obtain ⟨op, loc, reg, val⟩ := x
  have hln : loc = ln := hln
  have hrn : reg = rn := hrn
  subst hln
  subst hrn
  have HK := hid hk
  have hvl' := hid hvl
  obtain ⟨V, hV⟩ : ∃ V, V = (valC a p.length cap s ++ []).toArray := ⟨_, rfl⟩
  rw [← hV] at hg
  have HG := hid hg
  have HVV := hid hV
  have HONE := hid (show V.all (·.oneCell') = true from by
    rw [hV, List.append_nil]
    simp [valC, Value.oneCell'])
  have HSZ := hid (show (Try.prog.info? 94).map (·.size) = some V.size from by
    rw [hV, List.append_nil, List.size_toArray, length_valC hvl]
    kernel_rfl)
  have HSZ16 := hid (show z16.size = V.size from by
    have e : V.size = 16 := by rw [hV, List.append_nil, List.size_toArray]; exact length_valC hvl
    rw [e]; rfl)
  have ht3 : (t : Int) < 3 := by omega
  have hl3 : (ln : Int) < 3 := by omega
  have hr3 : (rn : Int) < 3 := by omega
  clear hxs hk hx hiv hnx hmv hwv hcm hgd hrp hg hV hgo hv
  go_enter Try.func118, Try.ntmps118
  go_wp2_with (first | (refine wpList_load_row rfl 94 (.tmp 10) rfl g rfl 94 V (0, 0) _ HG.out Try.underlying94 rfl HSZ.out ?_) | (refine wpList_store_row rfl 94 (.tmp 5) (.tmp 11) rfl w.heap.size V rfl rfl 94 _ (heap_alloc_new w _) HSZ.out HSZ16.out HONE.out ?_))
  have D1 : AfI w w.heap.size a p.length cap [] 94 s ((w.alloc (.cells z16 94)).setRow w.heap.size V) := by
    refine ⟨?_, hvl, ?_, Nat.le_refl _⟩
    · rw [setRow_heap _ _ _ V _ _ (heap_alloc_new w _), HVV.out]
    · exact Proofs.Ytbncmeggnhggkaa.Below.keeps ((Below.refl w.heap.size w).alloc (Nat.le_refl _) (.cells z16 94)) (keeps_setRow _ w.heap.size V) (by simp) (fun k e => by omega)
  obtain ⟨w1, hw1⟩ : ∃ w1, w1 = (w.alloc (.cells z16 94)).setRow w.heap.size V := ⟨_, rfl⟩
  rw [← hw1] at D1 ⊢
  have HD1 := hid D1
  clear D1 hw1
  refine (HNX.out w1 (HAT.out.below HD1.out.below)).mono ?_
  rintro e w2 ⟨rfl, hb2⟩
  have hx2 : Box ((w2.setCell ⟨w.heap.size, 1 + t, none⟩ (.int .u8 ((k : Int) + 1))).alloc (.cells #[.int .i64 op, .int .i64 ln, .int .i64 rn, .int .i64 val] 79)) w2.heap.size ⟨op, ln, rn, val⟩ := by
    have e : (w2.setCell ⟨w.heap.size, 1 + t, none⟩ (.int .u8 ((k : Int) + 1))).heap.size = w2.heap.size := by simp [World.setCell]
    have := Box.new (w2.setCell ⟨w.heap.size, 1 + t, none⟩ (.int .u8 ((k : Int) + 1))) ⟨op, ln, rn, val⟩ 79
    rw [e] at this
    exact this
  have HD2 := hid (HD1.out.later hb2)
  have HD4 := hid ((HD2.out.setpc htl ((k : Int) + 1)).later ((Below.refl _ _).alloc (Nat.le_refl _) (.cells #[.int .i64 op, .int .i64 ln, .int .i64 rn, .int .i64 val] 79)))
  have hlt2 : w.heap.size < w2.heap.size := by have := hb2.size; have := HD1.out.lt; omega
  have p3 := HD2.out.cell (valC_pc HD2.out.len HK.out)
  have f3 := HD2.out.free (1 + t)
  have HX4 := hid hx2
  clear hb2 HD1 hx2
  go_wp2_with fail
  obtain ⟨w4, hw4⟩ : ∃ w4, w4 = (w2.setCell ⟨w.heap.size, 1 + t, none⟩ (.int .u8 ((k : Int) + 1))).alloc (.cells #[.int .i64 op, .int .i64 ln, .int .i64 rn, .int .i64 val] 79) := ⟨_, rfl⟩
  rw [← hw4] at HD4 HX4 ⊢
  have hs4 : w4.heap.size = w2.heap.size + 1 := by rw [hw4]; simp [World.setCell]
  clear p3 f3 HD2 hw4
  obtain ⟨J, hJ⟩ : ∃ J : World → Prop, J = fun w' => Below w4.heap.size w4 w' := ⟨_, rfl⟩
  have HJ := hid (fun w' (h : Below w4.heap.size w4 w') => show J w' by rw [hJ]; exact h)
  have HC := hid (fun w' (h : J w') => show w'.cell? ⟨w2.heap.size, 0, none⟩ = some (.int .i64 op) ∧ w'.cell? ⟨w2.heap.size, 1, none⟩ = some (.int .i64 ln) ∧ w'.cell? ⟨w2.heap.size, 2, none⟩ = some (.int .i64 rn) ∧ w'.cell? ⟨w2.heap.size, 3, none⟩ = some (.int .i64 val) from by
    rw [hJ] at h
    exact HX4.out.below h (by omega))
  have hJ0 : J w4.drew := HJ.out _ (below_drewN 1 (Below.refl _ _))
  clear hJ
  refine MJ.wp_region_mix (J := J) (by kernel_rfl) (by kernel_rfl) ?_
  repeat (first | (refine MJ.wpMix_pure rfl rfl (fun K hK => ?_); go_simp; (first | refine hK _ ?_ | refine ⟨_, fun W hW => rfl, hK _ ?_⟩ | refine ⟨_, fun W hW => ⟨rfl, rfl⟩, hK _ ?_⟩); clear hK K) | (refine MJ.wpMix_held rfl rfl (by assumption) (fun K hK => ?_); go_simp; apply Exists.intro; refine And.intro (fun W hW => ?_) (hK _ ?_); (focus (have hcs := HC.out W hW; go_simp; try rfl)); clear hK K))
  (with_reducible refine MJ.wpMix_make rfl rfl (fun K hK => ?_); go_simp)
  refine (HST.out _ ((HAT.out.below HD4.out.below).below (below_drewN 1 (Below.refl _ _)))).mono ?_
  rintro e w5 ⟨rfl, hb5⟩
  have hb5' : Below w4.heap.size w4 w5 := (below_drewN 1 (Below.refl _ _)).trans hb5
  have hJ5 : J w5 := HJ.out _ hb5'
  have HD5 := hid (HD4.out.later hb5')
  have HX5 := hid (HX4.out.below hb5' (by omega))
  have hs5 := hb5'.size
  refine hK _ _ hJ5 ?_
  clear hK K hb5 hb5' hJ0
  repeat (first | (refine MJ.wpMix_pure rfl rfl (fun K hK => ?_); go_simp; (first | refine hK _ ?_ | refine ⟨_, fun W hW => rfl, hK _ ?_⟩ | refine ⟨_, fun W hW => ⟨rfl, rfl⟩, hK _ ?_⟩); clear hK K) | (refine MJ.wpMix_held rfl rfl (by assumption) (fun K hK => ?_); go_simp; apply Exists.intro; refine And.intro (fun W hW => ?_) (hK _ ?_); (focus (have hcs := HC.out W hW; go_simp; try rfl)); clear hK K))
  refine MJ.wpMix_nil ?_
  have x5 := Box.four HX5.out
  clear HJ HC hJ5 HD4 HX4
  go_wp2_with fail
  refine (HRE.out _).mono ?_
  rintro e w6 ⟨rfl, hb6⟩
  have HD6 := hid (HD5.out.later hb6)
  have HX6 := hid (HX5.out.below hb6 (by omega))
  have hs6 := hb6.size
  clear HD5 HX5 x5 hb6
  by_cases hre : insReads ⟨op, ln, rn, val⟩ = true
  · rw [hre]
    rw [hre, if_pos rfl] at HDO
    have x6 := Box.four HX6.out
    have m6 := HCM.out _ HD6.out.below
    obtain ⟨r6, hr6⟩ : ∃ r6, s.regs[t * 3 + rn]? = some r6 := ⟨_, List.getElem?_eq_getElem hil⟩
    have p6 := HD6.out.cell (valC_reg HD6.out.len hr6)
    have f6 := HD6.out.free (4 + (t * 3 + rn))
    have HD7 := hid (AfI.drew (HD6.out.setreg (i := t * 3 + rn) hil mv))
    have HX7 := hid (Box.drew (HX6.out.set (g := w.heap.size) (j := 4 + (t * 3 + rn)) (v := .int .u8 mv) (by omega)))
    rw [← Nat.add_assoc] at p6 f6 HD7 HX7
    clear hr6
    go_wp2_with fail
    refine wp_region_mix (by kernel_rfl) (by kernel_rfl) ?_
    repeat (with_reducible refine wpMix_rd rfl rfl (fun K hK => ?_); go_simp; (try go_bits); refine hK _ ?_; clear hK K)
    (with_reducible refine wpMix_act (o := ⟨_, .store _ _ _, _, _, _, _⟩) rfl rfl (fun K hK => ?_))
    go_simp
    refine hK _ _ ?_
    clear hK K
    obtain ⟨w7, hw7⟩ : ∃ w7, w7 = (w6.setCell ⟨w.heap.size, 4 + t * 3 + rn, none⟩ (.int .u8 mv)).drew := ⟨_, rfl⟩
    rw [← hw7] at HD7 HX7 ⊢
    have hs7 : w6.heap.size = w7.heap.size := by rw [hw7]; simp [World.setCell]
    clear x6 m6 p6 f6 HD6 HX6 hw7
    (with_reducible refine wpMix_nil ?_)
    have x7 := Box.four HX7.out
    go_wp2_with fail
    refine (HWR.out _).mono ?_
    rintro e w8 ⟨rfl, hb8⟩
    have HD8 := hid (HD7.out.later hb8)
    have HX8 := hid (HX7.out.below hb8 (by omega))
    have hs8 := hb8.size
    clear HD7 HX7 x7 hb8
    by_cases hwr : insWrites ⟨op, ln, rn, val⟩ = true
    · rw [hwr]
      rw [hwr, if_pos rfl] at HDO
      have x8 := Box.four HX8.out
      obtain ⟨m8, hm8⟩ : ∃ m8, (s.mem)[ln]? = some m8 := ⟨_, List.getElem?_eq_getElem (by have := HD8.out.len.mem; dsimp only at this; omega)⟩
      have p8 := HD8.out.cell (valC_mem HD8.out.len hm8)
      have f8 := HD8.out.free (13 + ln)
      have HD9 := hid (HD8.out.setmem (l := ln) (by omega) wv)
      clear hm8
      go_wp2
      go_ret
      refine ⟨w.heap.size, rfl, ⟨⟨a, cap, ?_, HRP.out.below HD9.out.below⟩, HGD.out⟩, HD9.out.below⟩
      rw [HDO.out]
      exact HD9.out.cur
    · have hwr : insWrites ⟨op, ln, rn, val⟩ = false := by simpa using hwr
      rw [hwr]
      rw [hwr, if_neg (by decide)] at HDO
      go_wp2
      go_ret
      refine ⟨w.heap.size, rfl, ⟨⟨a, cap, ?_, HRP.out.below HD8.out.below⟩, HGD.out⟩, HD8.out.below⟩
      rw [HDO.out]
      exact HD8.out.cur
  · have hre : insReads ⟨op, ln, rn, val⟩ = false := by simpa using hre
    rw [hre]
    rw [hre, if_neg (by decide)] at HDO
    have x7 := Box.four HX6.out
    go_wp2_with fail
    refine (HWR.out _).mono ?_
    rintro e w8 ⟨rfl, hb8⟩
    have HD8 := hid (HD6.out.later hb8)
    have HX8 := hid (HX6.out.below hb8 (by omega))
    have hs8 := hb8.size
    clear HD6 HX6 x7 hb8
    by_cases hwr : insWrites ⟨op, ln, rn, val⟩ = true
    · rw [hwr]
      rw [hwr, if_pos rfl] at HDO
      have x8 := Box.four HX8.out
      obtain ⟨m8, hm8⟩ : ∃ m8, (s.mem)[ln]? = some m8 := ⟨_, List.getElem?_eq_getElem (by have := HD8.out.len.mem; dsimp only at this; omega)⟩
      have p8 := HD8.out.cell (valC_mem HD8.out.len hm8)
      have f8 := HD8.out.free (13 + ln)
      have HD9 := hid (HD8.out.setmem (l := ln) (by omega) wv)
      clear hm8
      go_wp2
      go_ret
      refine ⟨w.heap.size, rfl, ⟨⟨a, cap, ?_, HRP.out.below HD9.out.below⟩, HGD.out⟩, HD9.out.below⟩
      rw [HDO.out]
      exact HD9.out.cur
    · have hwr : insWrites ⟨op, ln, rn, val⟩ = false := by simpa using hwr
      rw [hwr]
      rw [hwr, if_neg (by decide)] at HDO
      go_wp2
      go_ret
      refine ⟨w.heap.size, rfl, ⟨⟨a, cap, ?_, HRP.out.below HD8.out.below⟩, HGD.out⟩, HD8.out.below⟩
      rw [HDO.out]
      exact HD8.out.cur
end Go.Proofs.Ytbncmeggnhggkaa
namespace Go.Proofs.Ytbncmeggnhggkaa
open Go.RowKit
set_option linter.unusedVariables false
set_option linter.unusedSimpArgs false

theorem index_c (w : World) (a : Option Addr) (cap : Nat) (xs : List Int) (x : Int) (h : Rd w a (ints xs)) (hl : xs.length ≤ 1048576) :
    Calls Try.prog 97 #[.slice a xs.length cap, .int .i64 x] w fun e w' => ∃ r : Int, e = .returned (.int .i64 r) ∧ (0 ≤ r ↔ x ∈ xs) ∧ w = w' := by
  obtain ⟨n, hn⟩ : ∃ n, n = xs.length := ⟨_, rfl⟩
  have HN := hid hn
  have HR := hid h
  rw [← hn] at hl ⊢
  clear hn h
  go_enter Try.func97, Try.ntmps97
  go_wp2
  go_loop [8] (fun i => ∃ k : Nat, k ≤ n ∧ i = .int .i64 k ∧ Hid (∀ (j : Nat) y, j < k → xs[j]? = some y → y ≠ x)) (fun i => n - (intOf i).toNat)
  case atStart => exact ⟨0, Nat.zero_le _, rfl, hid (fun j y hj => by omega)⟩
  case round =>
    obtain ⟨k, hk, rfl, HS⟩ := hrel
    by_cases hlt : k < n
    · obtain ⟨b, off, hab, hb, hc⟩ := HR.out.int k (by rw [← HN.out]; exact hlt)
      subst hab
      obtain ⟨y, hy⟩ : ∃ y, y = xs[k]'(by rw [← HN.out]; exact hlt) := ⟨_, rfl⟩
      rw [← hy] at hc
      have HX := hid (show xs[k]? = some y by rw [hy]; exact List.getElem?_eq_getElem _)
      clear hy
      by_cases hp : x = y
      · have d : (x == y) = true := by simpa using hp
        have HP := hid hp
        clear hp
        go_wp2
        go_ret
        refine ⟨_, rfl, ⟨fun _ => ?_, fun _ => by omega⟩, rfl⟩
        rw [HP.out]
        exact List.mem_of_getElem? HX.out
      · have d : (x == y) = false := by simpa using hp
        have HP := hid hp
        clear hp
        go_wp2_with fail
        go_round
        case rel => exact ⟨k + 1, by omega, by go_num, hid (fun j z hj hz => by
          by_cases hjk : j = k
          · subst hjk; rw [HX.out] at hz; cases hz; exact fun e => HP.out e.symm
          · exact HS.out j z (by omega) hz)⟩
        case measure => simp [intOf]; omega
    · go_wp2
      go_ret
      refine ⟨_, rfl, ⟨fun h => by omega, fun hm => ?_⟩, rfl⟩
      exfalso
      obtain ⟨j, hj, e⟩ := List.mem_iff_getElem.1 hm
      exact HS.out j x (by have := HN.out; omega) (by rw [List.getElem?_eq_getElem hj, e]) rfl

theorem contains_c (w : World) (a : Option Addr) (cap : Nat) (xs : List Int) (x : Int) (h : Rd w a (ints xs)) (hl : xs.length ≤ 1048576) :
    Calls Try.prog 74 #[.slice a xs.length cap, .int .i64 x] w fun e w' => e = .returned (.bool (decide (x ∈ xs))) ∧ w = w' := by
  have C := hid (index_c w a cap xs x h hl)
  clear h
  go_enter Try.func74, Try.ntmps74
  go_wp2_with fail
  refine C.out.mono ?_
  rintro e w1 ⟨r, rfl, hr, rfl⟩
  have HR := hid hr
  clear hr
  go_wp2
  go_ret
  exact ⟨ret_bool (decide_eq_decide.2 HR.out), rfl⟩
end Go.Proofs.Ytbncmeggnhggkaa
namespace Go.Proofs.Ytbncmeggnhggkaa
open Go.RowKit
set_option linter.unusedVariables false
set_option linter.unusedSimpArgs false

/-- A machine: the dynamic type of its states, how a state lies in memory, its methods and what they do. -/
structure Mach (σ : Type) where
  T : TypeId
  lies : World → Nat → σ → Prop
  later : ∀ {w w' : World} {b : Nat} {s : σ}, lies w b s → Below w.heap.size w w' → lies w' b s
  mv : σ → List Int
  st : σ → Int → σ
  dn : σ → Bool
  out : σ → List Int
  fm : FuncId
  fa : FuncId
  fd : FuncId
  fo : FuncId
  mvlen : ∀ {w : World} {b : Nat} {s : σ}, lies w b s → (mv s).length ≤ 1000
  moves_c : ∀ (w : World) (b : Nat) (s : σ), lies w b s → Calls Try.prog fm #[.pointer (some ⟨b, 0, none⟩)] w (RetL w (mv s))
  after_c : ∀ (w : World) (b : Nat) (s : σ) (m : Int), lies w b s → m ∈ mv s → Calls Try.prog fa #[.pointer (some ⟨b, 0, none⟩), .int .i64 m] w fun e w' => ∃ b', e = .returned (.iface T (.pointer (some ⟨b', 0, none⟩))) ∧ lies w' b' (st s m) ∧ Below w.heap.size w w'
  done_c : ∀ (w : World) (b : Nat) (s : σ), lies w b s → Calls Try.prog fd #[.pointer (some ⟨b, 0, none⟩)] w fun e w' => e = .returned (.bool (dn s)) ∧ Below w.heap.size w w'
  outcome_c : ∀ (w : World) (b : Nat) (s : σ), lies w b s → Calls Try.prog fo #[.pointer (some ⟨b, 0, none⟩)] w (RetL w (out s))
  hm : ∀ (b : Nat) (w : World), (method 305 T (.pointer (some ⟨b, 0, none⟩)) "loop.example/weakmemory/impl.moves").run Try.prog w = .ok (fm, .pointer (some ⟨b, 0, none⟩)) w
  ha : ∀ (b : Nat) (w : World), (method 305 T (.pointer (some ⟨b, 0, none⟩)) "loop.example/weakmemory/impl.after").run Try.prog w = .ok (fa, .pointer (some ⟨b, 0, none⟩)) w
  hd : ∀ (b : Nat) (w : World), (method 305 T (.pointer (some ⟨b, 0, none⟩)) "loop.example/weakmemory/impl.done").run Try.prog w = .ok (fd, .pointer (some ⟨b, 0, none⟩)) w
  ho : ∀ (b : Nat) (w : World), (method 305 T (.pointer (some ⟨b, 0, none⟩)) "loop.example/weakmemory/impl.outcome").run Try.prog w = .ok (fo, .pointer (some ⟨b, 0, none⟩)) w
  cm : ∀ args (w : World), (callFunc fm args).run Try.prog w = .ok (.enter fm args) w
  ca : ∀ args (w : World), (callFunc fa args).run Try.prog w = .ok (.enter fa args) w
  cd : ∀ args (w : World), (callFunc fd args).run Try.prog w = .ok (.enter fd args) w
  co : ∀ args (w : World), (callFunc fo args).run Try.prog w = .ok (.enter fo args) w

/-- What follow hands back. -/
def FolR {σ : Type} (M : Mach σ) (w : World) (o : Option σ) (e : Ending) (w' : World) : Prop :=
  (match o with | some s => ∃ b, e = .returned (.tuple #[.iface M.T (.pointer (some ⟨b, 0, none⟩)), .bool true]) ∧ M.lies w' b s | none => e = .returned (.tuple #[.nilIface, .bool false])) ∧ Below w.heap.size w w'
theorem FolR.some {σ : Type} {M : Mach σ} {w w' : World} {o : Option σ} {s : σ} {b : Nat} (ho : o = .some s) (h : M.lies w' b s) (hb : Below w.heap.size w w') : FolR M w o (.returned (.tuple #[.iface M.T (.pointer (.some ⟨b, 0, none⟩)), .bool true])) w' := by
  subst ho
  exact ⟨⟨b, rfl, h⟩, hb⟩
theorem FolR.none {σ : Type} {M : Mach σ} {w w' : World} {o : Option σ} (ho : o = .none) (hb : Below w.heap.size w w') : FolR M w o (.returned (.tuple #[.nilIface, .bool false])) w' := by
  subst ho
  exact ⟨rfl, hb⟩
set_option maxRecDepth 100000 in
set_option maxHeartbeats 800000 in
theorem follow_c {σ : Type} (M : Mach σ) (w : World) (b0 : Nat) (s0 : σ) (a : Option Addr) (cap : Nat) (ms : List Int) (h : M.lies w b0 s0) (hm : Rd w a (ints ms)) (hl : ms.length ≤ 1048576) :
    Calls Try.prog 46 #[.iface M.T (.pointer (some ⟨b0, 0, none⟩)), .slice a ms.length cap] w (FolR M w (Proofs.Ytbncmeggnhggkaa.follow M.mv M.st s0 ms)) := by
  obtain ⟨n, hn⟩ : ∃ n, n = ms.length := ⟨_, rfl⟩
  have HN := hid hn
  have HR := hid hm
  have HL := hid h
  rw [← hn] at hl ⊢
  clear hn h hm
  go_enter Try.func46, Try.ntmps46
  go_wp2_with fail
  go_loopw [0, 10] (fun v i wr => ∃ k : Nat, k ≤ n ∧ i = .int .i64 k ∧ (∃ b, v = .iface M.T (.pointer (some ⟨b, 0, none⟩)) ∧ Hid (∃ s, Proofs.Ytbncmeggnhggkaa.follow M.mv M.st s0 (ms.take k) = some s ∧ M.lies wr b s)) ∧ Hid (Below w.heap.size w wr)) (fun _ i _ => n - (intOf i).toNat)
  case atStart => exact ⟨0, Nat.zero_le _, rfl, ⟨b0, rfl, hid ⟨s0, by simp [Proofs.Ytbncmeggnhggkaa.follow], HL.out⟩⟩, hid (Below.refl _ _)⟩
  case round =>
    obtain ⟨k, hk, rfl, ⟨b, rfl, HS⟩, HB⟩ := hrel
    by_cases hlt : k < n
    · obtain ⟨mb, mo, hab, hbl, hc⟩ := HR.out.int k (by rw [← HN.out]; exact hlt)
      subst hab
      obtain ⟨m, hm⟩ : ∃ m, m = ms[k]'(by rw [← HN.out]; exact hlt) := ⟨_, rfl⟩
      rw [← hm] at hc
      have HX := hid (show ms[k]? = some m by rw [hm]; exact List.getElem?_eq_getElem _)
      have hcm := (HB.out.cell (p := ⟨mb, mo + k, none⟩) hbl).trans hc
      clear hm hc
      obtain ⟨s, hfo, hls⟩ := HS.out
      have HFO := hid hfo
      have HLS := hid hls
      have HMV := hid (M.moves_c wr b s hls)
      have hlen := M.mvlen hls
      obtain ⟨L, hL⟩ : ∃ L, L = M.mv s := ⟨_, rfl⟩
      have HLE := hid hL
      rw [← hL] at HMV hlen
      have hm1 := M.hm b
      have hcm1 := M.cm
      have ha1 := M.ha b
      have hca1 := M.ca
      clear hfo hls hL HS
      by_cases hin : m ∈ L
      · have HIN := hid hin
        have d0 : decide (m ∈ L) = true := decide_eq_true hin
        clear hin
        go_wp2_with fail
        refine HMV.out.mono ?_
        rintro e w2 ⟨ma, mc, rfl, hown, hb2⟩
        have HRL := hid (Rd.own hown)
        have HB2 := hid (HB.out.trans (hb2.mono HB.out.size))
        have HLS2 := hid (M.later HLS.out hb2)
        clear hown hb2
        go_wp2_with fail
        refine (contains_c _ _ _ L m HRL.out (by omega)).mono ?_
        rintro e w3 ⟨rfl, rfl⟩
        rw [d0]
        go_wp2_with fail
        refine (M.after_c _ _ s m HLS2.out (by rw [← HLE.out]; exact HIN.out)).mono ?_
        rintro e w4 ⟨b', rfl, hls4, hb4⟩
        have HLS4 := hid hls4
        have HB4 := hid (HB2.out.trans (hb4.mono HB2.out.size))
        clear hls4 hb4
        go_wp2_with fail
        go_roundw
        case rel => exact ⟨k + 1, by omega, by go_num, ⟨b', rfl, hid ⟨_, follow_step HFO.out HX.out (by rw [← HLE.out]; exact HIN.out), HLS4.out⟩⟩, HB4⟩
        case measure => simp [intOf]; omega
      · have HST := hid (follow_stop HFO.out HX.out (by rw [← HLE.out]; exact hin))
        have d0 : decide (m ∈ L) = false := decide_eq_false hin
        clear hin
        go_wp2_with fail
        refine HMV.out.mono ?_
        rintro e w2 ⟨ma, mc, rfl, hown, hb2⟩
        have HRL := hid (Rd.own hown)
        have HB2 := hid (HB.out.trans (hb2.mono HB.out.size))
        clear hown hb2
        go_wp2_with fail
        refine (contains_c _ _ _ L m HRL.out (by omega)).mono ?_
        rintro e w3 ⟨rfl, rfl⟩
        rw [d0]
        go_wp2
        go_ret2
        exact FolR.none HST.out HB2.out
    · obtain ⟨s, hfo, hls⟩ := HS.out
      have HALL := hid (follow_all hfo (show ms.length ≤ k by have := HN.out; omega))
      have HLS := hid hls
      clear hfo hls HS
      go_wp2
      go_ret2
      exact FolR.some HALL.out HLS.out HB.out

set_option maxRecDepth 100000 in
set_option maxHeartbeats 800000 in
theorem finished_c {σ : Type} (M : Mach σ) (w : World) (b0 : Nat) (s0 : σ) (a : Option Addr) (cap : Nat) (ms : List Int) (h : M.lies w b0 s0) (hm : Rd w a (ints ms)) (hl : ms.length ≤ 1048576) :
    Calls Try.prog 40 #[.iface M.T (.pointer (some ⟨b0, 0, none⟩)), .slice a ms.length cap] w (RetLB w (runRes M.dn M.out (Proofs.Ytbncmeggnhggkaa.follow M.mv M.st s0 ms))) := by
  have HF := hid (follow_c M w b0 s0 a cap ms h hm hl)
  obtain ⟨r, hr⟩ : ∃ r, r = Proofs.Ytbncmeggnhggkaa.follow M.mv M.st s0 ms := ⟨_, rfl⟩
  rw [← hr] at HF ⊢
  clear h hm hr
  cases r with
  | none =>
    have HR := hid (show runRes M.dn M.out (none : Option σ) = ([], false) from rfl)
    rw [HR.out]
    go_enter Try.func40, Try.ntmps40
    go_wp2_with fail
    refine HF.out.mono ?_
    rintro e w1 ⟨rfl, hb1⟩
    go_wp2
    go_ret2
    exact retLB_nil hb1
  | some s =>
    have HDN := hid (fun w b h => M.done_c w b s h)
    have HOU := hid (fun w b h => M.outcome_c w b s h)
    by_cases hd : M.dn s = true
    · have HR := hid (show runRes M.dn M.out (some s) = (M.out s, true) from by unfold runRes; dsimp only; rw [if_pos hd])
      rw [HR.out]
      rw [hd] at HDN
      have hd1 := M.hd
      have cd1 := M.cd
      have ho1 := M.ho
      have co1 := M.co
      clear hd
      go_enter Try.func40, Try.ntmps40
      go_wp2_with fail
      refine HF.out.mono ?_
      rintro e w1 ⟨⟨b, rfl, hls⟩, hb1⟩
      have HLS := hid hls
      have HB1 := hid hb1
      clear hls hb1
      go_wp2_with fail
      refine (HDN.out _ _ HLS.out).mono ?_
      rintro e w2 ⟨rfl, hb2⟩
      have HLS2 := hid (M.later HLS.out hb2)
      have HB2 := hid (HB1.out.trans (hb2.mono HB1.out.size))
      clear hb2
      go_wp2_with fail
      refine (HOU.out _ _ HLS2.out).mono ?_
      rintro e w3 ⟨a3, c3, rfl, ho3, hb3⟩
      have HO3 := hid ho3
      have HB3 := hid hb3
      clear ho3 hb3
      go_wp2
      go_ret2
      exact ⟨a3, c3, rfl, own_base HO3.out HB2.out.size, HB2.out.trans (HB3.out.mono HB2.out.size)⟩
    · have hd : M.dn s = false := by simpa using hd
      have HR := hid (show runRes M.dn M.out (some s) = ([], false) from by unfold runRes; dsimp only; rw [if_neg (by simp [hd])])
      rw [HR.out]
      rw [hd] at HDN
      have hd1 := M.hd
      have cd1 := M.cd
      clear hd
      go_enter Try.func40, Try.ntmps40
      go_wp2_with fail
      refine HF.out.mono ?_
      rintro e w1 ⟨⟨b, rfl, hls⟩, hb1⟩
      have HLS := hid hls
      have HB1 := hid hb1
      clear hls hb1
      go_wp2_with fail
      refine (HDN.out _ _ HLS.out).mono ?_
      rintro e w2 ⟨rfl, hb2⟩
      have HB2 := hid (HB1.out.trans (hb2.mono HB1.out.size))
      clear hb2
      go_wp2
      go_ret2
      exact retLB_nil HB2.out
end Go.Proofs.Ytbncmeggnhggkaa
namespace Go.Proofs.Ytbncmeggnhggkaa
open Go.RowKit
set_option linter.unusedVariables false
set_option linter.unusedSimpArgs false

theorem moves3_len {p : Prg} (s : St) (hv : Shape p) : (moves3 p s).length ≤ 1000 := by
  have := movesTo_len p s p.length
  have := hv.len
  show (movesTo p s p.length).length ≤ 1000
  omega
/-- The machine with one memory. -/
def seqM (p : Prg) (hv : Shape p) : Mach St where
  T := 88
  lies w b s := MAt 94 [] w b p s
  later h hb := h.below hb
  mv := moves3 p
  st s m := do3 p s m.toNat
  dn := done3 p
  out := out3
  fm := 122
  fa := 118
  fd := 120
  fo := 123
  mvlen {_ _ s} _ := moves3_len s hv
  moves_c w b s h := seqMoves_c w b p s h.v hv
  after_c w b s m h hm := by
    obtain ⟨t, rfl, _, hgo⟩ := (mem_moves3 m).1 hm
    exact seqAfter_c w b p s t h hv hgo
  done_c w b s h := seqDone_c w b p s h.v hv
  outcome_c w b s h := outcome_c w b p s h.v hv
  hm b w := by kernel_rfl
  ha b w := by kernel_rfl
  hd b w := by kernel_rfl
  ho b w := by kernel_rfl
  cm args w := run_callFunc Try.func122 rfl rfl args w
  ca args w := run_callFunc Try.func118 rfl rfl args w
  cd args w := run_callFunc Try.func120 rfl rfl args w
  co args w := run_callFunc Try.func123 rfl rfl args w

set_option maxHeartbeats 800000 in
theorem rsI_c (w : World) (a : Option Addr) (cap : Nat) (p : Prg) (a' : Option Addr) (cap' : Nat) (ms : List Int) (h : RdP w a p) (h' : Rd w a' (ints ms)) (hl : sizeP p ≤ 1048576) (hl' : ms.length ≤ 1048576) :
    Calls Try.prog 14 #[.slice a p.length cap, .slice a' ms.length cap'] w (RetLB w (runSch p ms)) := by
  have HV := hid (pvI_c w a cap p h hl)
  by_cases hv : progValid p = true
  · rw [hv] at HV
    have hsh := (valid_of hv).toShape
    have HRES := hid (show runSch p ms = runRes (done3 p) out3 (seqRun p ms) by unfold runSch; rw [if_pos hv])
    have HNEW := hid (fun w h => newSeq_c w a cap p h hsh)
    have HFIN := hid (fun w b s h hm => finished_c (seqM p hsh) w b s a' cap' ms h hm hl')
    have HP := hid h
    have HM := hid h'
    rw [HRES.out]
    clear hv hl hl' h h' HRES
    go_enter Try.func14, Try.ntmps14
    go_wp2_with fail
    refine HV.out.mono ?_
    rintro e w1 ⟨rfl, hb1⟩
    have HB1 := hid hb1
    clear hb1
    go_wp2_with fail
    refine (HNEW.out _ (HP.out.below HB1.out)).mono ?_
    rintro e w2 ⟨rfl, hat, hb2⟩
    have HAT := hid hat
    have HB2 := hid (HB1.out.trans (hb2.mono HB1.out.size))
    clear hat hb2
    go_wp2_with fail
    refine (HFIN.out _ _ (start3 p 0) HAT.out (HM.out.below HB2.out)).mono ?_
    rintro e w3 ⟨a3, c3, rfl, ho3, hb3⟩
    have HO3 := hid ho3
    have HB3 := hid hb3
    clear ho3 hb3
    go_wp2
    go_ret2
    exact ⟨a3, c3, rfl, own_base HO3.out HB2.out.size, HB2.out.trans (HB3.out.mono HB2.out.size)⟩
  · have hv : progValid p = false := by simpa using hv
    rw [hv] at HV
    have HRES := hid (show runSch p ms = ([], false) by unfold runSch; rw [hv]; rfl)
    rw [HRES.out]
    clear hv h h' hl hl' HRES
    go_enter Try.func14, Try.ntmps14
    go_wp2_with fail
    refine HV.out.mono ?_
    rintro e w1 ⟨rfl, hb1⟩
    have HB1 := hid hb1
    clear hb1
    go_wp2
    go_ret2
    exact retLB_nil HB1.out
end Go.Proofs.Ytbncmeggnhggkaa
