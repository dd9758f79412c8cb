/-
  PROVED HERE: words for the program's states; what (*values).next does. CONDITIONS: as each theorem states.
-/
import Derived.Test.YthlmfjoiicnomaaBf
import Derived.Test.YthlmfjoiicnomaaSw
import Derived.Test.YthlmfjoiicnomaaVav
import Derived.Test.YthlmfjoiicnomaaOpn
namespace Go.Proofs.Ythlmfjoiicnomaa
open Go.RowKit
set_option linter.unusedVariables false
set_option linter.unusedSimpArgs false

def pad (k : Nat) (xs : List Int) : List Int := xs ++ List.replicate (k - xs.length) 0
theorem length_pad {k : Nat} {xs : List Int} (h : xs.length ≤ k) : (pad k xs).length = k := by simp [pad]; omega
theorem pad_get {k : Nat} {xs : List Int} {i : Nat} {x : Int} (h : xs[i]? = some x) : (pad k xs)[i]? = some x := by
  unfold pad
  rw [List.getElem?_append_left (List.getElem?_eq_some_iff.1 h).1]
  exact h
theorem pad_set {k : Nat} {xs : List Int} {i : Nat} {x : Int} (h : i < xs.length) : (pad k xs).set i x = pad k (xs.set i x) := by
  unfold pad
  rw [List.set_append_left _ _ h, List.length_set]
abbrev b8s (xs : List Int) : List Value := xs.map (Value.int .u8)
/-- The cells of a state's values: the program, how far threads are, registers, memory. -/
def valC (a : Option Addr) (n cap : Nat) (s : St) : List Value := .slice a n cap :: (b8s (pad 3 s.pc) ++ (b8s (pad 9 s.regs) ++ b8s s.mem))
structure ValLen (s : St) : Prop where
  pc : s.pc.length ≤ 3
  regs : s.regs.length ≤ 9
  mem : s.mem.length = 3
theorem Good.vlen {p : Prg} {s : St} (h : Good p s) (hv : Shape p) : ValLen s := by
  have := hv.len
  have := h.pcl
  have := h.regl
  exact ⟨by omega, by omega, h.meml⟩
section
variable {a : Option Addr} {n cap : Nat} {s : St}
theorem length_valC (h : ValLen s) : (valC a n cap s).length = 16 := by
  simp [valC, length_pad h.pc, length_pad h.regs, h.mem]
theorem valC_pc (h : ValLen s) {t : Nat} {k : Int} (hk : s.pc[t]? = some k) : (valC a n cap s)[1 + t]? = some (.int .u8 k) := by
  have ht := (List.getElem?_eq_some_iff.1 hk).1
  have := h.pc
  unfold valC
  rw [Nat.add_comm, List.getElem?_cons_succ, List.getElem?_append_left (by simp [length_pad h.pc]; omega), List.getElem?_map, pad_get hk]
  rfl
theorem valC_reg (h : ValLen s) {i : Nat} {k : Int} (hk : s.regs[i]? = some k) : (valC a n cap s)[4 + i]? = some (.int .u8 k) := by
  have ht := (List.getElem?_eq_some_iff.1 hk).1
  have := h.regs
  unfold valC
  rw [show 4 + i = (3 + i) + 1 by omega, List.getElem?_cons_succ, List.getElem?_append_right (by simp [length_pad h.pc]), List.getElem?_append_left (by simp [length_pad h.pc, length_pad h.regs]; omega), List.getElem?_map]
  simp [length_pad h.pc, pad_get hk]
theorem valC_mem (h : ValLen s) {i : Nat} {k : Int} (hk : s.mem[i]? = some k) : (valC a n cap s)[13 + i]? = some (.int .u8 k) := by
  have ht := (List.getElem?_eq_some_iff.1 hk).1
  unfold valC
  rw [show 13 + i = (12 + i) + 1 by omega, List.getElem?_cons_succ, List.getElem?_append_right (by simp [length_pad h.pc]; omega), List.getElem?_append_right (by simp [length_pad h.pc, length_pad h.regs]; omega), List.getElem?_map]
  simp [length_pad h.pc, length_pad h.regs, show 12 + i - 3 - 9 = i by omega, hk]
theorem valC_setpc (h : ValLen s) {t : Nat} (ht : t < s.pc.length) (v : Int) : (valC a n cap s).set (1 + t) (.int .u8 v) = valC a n cap { s with pc := s.pc.set t v } := by
  have := h.pc
  unfold valC
  rw [Nat.add_comm, List.set_cons_succ, List.set_append_left _ _ (by simp [length_pad h.pc]; omega)]
  simp [b8s, ← List.map_set, pad_set ht]
theorem valC_setreg (h : ValLen s) {i : Nat} (ht : i < s.regs.length) (v : Int) : (valC a n cap s).set (4 + i) (.int .u8 v) = valC a n cap { s with regs := s.regs.set i v } := by
  have := h.regs
  unfold valC
  rw [show 4 + i = (3 + i) + 1 by omega, List.set_cons_succ, List.set_append_right _ _ (by simp [length_pad h.pc]), List.set_append_left _ _ (by simp [length_pad h.pc, length_pad h.regs]; omega)]
  simp [b8s, ← List.map_set, length_pad h.pc, pad_set ht]
theorem valC_setmem (h : ValLen s) {i : Nat} (v : Int) : (valC a n cap s).set (13 + i) (.int .u8 v) = valC a n cap { s with mem := s.mem.set i v } := by
  unfold valC
  rw [show 13 + i = (12 + i) + 1 by omega, List.set_cons_succ, List.set_append_right _ _ (by simp [length_pad h.pc]; omega), List.set_append_right _ _ (by simp [length_pad h.pc, length_pad h.regs]; omega)]
  simp [b8s, ← List.map_set, length_pad h.pc, length_pad h.regs, show 12 + i - 3 - 9 = i by omega]
end
/-- The state s of program p lies at block g (other cells may lie behind it). -/
structure VAt (w : World) (g : Nat) (p : Prg) (s : St) : Prop where
  at_ : ∃ a cap ex T, w.heap[g]? = some (.cells (valC a p.length cap s ++ ex).toArray T (0, 0)) ∧ RdP w a p
  good : Good p s
theorem VAt.below {w w' : World} {g : Nat} {p : Prg} {s : St} (h : VAt w g p s) (hb : Below w.heap.size w w') : VAt w' g p s := by
  obtain ⟨⟨a, cap, ex, T, h1, h2⟩, hg⟩ := h
  exact ⟨⟨a, cap, ex, T, by rw [hb.block g (Array.getElem?_eq_some_iff.1 h1).1]; exact h1, h2.below hb⟩, hg⟩
/-- The cells of a thread's state. -/
theorem VAt.cells {w : World} {g : Nat} {p : Prg} {s : St} (h : VAt w g p s) (hv : Shape p) : ∃ a cap, RdP w a p ∧ w.cell? ⟨g, 0, none⟩ = some (.slice a p.length cap) ∧ (∀ (t : Nat) (k : Int), s.pc[t]? = some k → w.cell? ⟨g, 1 + t, none⟩ = some (.int .u8 k)) ∧
    (∀ (i : Nat) (k : Int), s.regs[i]? = some k → w.cell? ⟨g, 4 + i, none⟩ = some (.int .u8 k)) ∧ (∀ (i : Nat) (k : Int), s.mem[i]? = some k → w.cell? ⟨g, 13 + i, none⟩ = some (.int .u8 k)) := by
  obtain ⟨⟨a, cap, ex, T, h1, h2⟩, hg⟩ := h
  have hl := hg.vlen hv
  have e := fun (j : Nat) (v : Value) (hj : (valC a p.length cap s)[j]? = some v) => show w.cell? ⟨g, j, none⟩ = some v from by
    rw [cell_of_row w g j _ _ _ h1]
    simp only [List.getElem?_toArray]
    rw [List.getElem?_append_left (List.getElem?_eq_some_iff.1 hj).1]
    exact hj
  exact ⟨a, cap, h2, e 0 _ rfl, fun t k hk => e _ _ (valC_pc hl hk), fun i k hk => e _ _ (valC_reg hl hk), fun i k hk => e _ _ (valC_mem hl hk)⟩

set_option maxHeartbeats 1600000 in
theorem next_c (w : World) (g : Nat) (p : Prg) (s : St) (t : Nat) (h : VAt w g p s) (hv : Shape p) (ht : t < p.length) :
    Calls Try.prog 136 #[.pointer (some ⟨g, 0, none⟩), .int .i64 t] w fun e w' => e = .returned (.tuple #[(if goes p s t then nxt p s t else insZ).v, .bool (goes p s t)]) ∧ Below w.heap.size w w' := by
  obtain ⟨a, cap, hrp, h0, hpc, _, _⟩ := h.cells hv
  obtain ⟨b, off, r, rc, xs, hab, hbl, hxs, hcell, hrx, hxl⟩ := hrp.at' t ht
  subst hab
  obtain ⟨k, hk, hkl⟩ := h.good.pcb t xs hxs
  have hc := hpc t _ hk
  have hn3 : p.length ≤ 3 := hv.len
  have h7 := hv.row t xs hxs
  have HG := hid (goes_of hxs hk)
  obtain ⟨n, hn⟩ : ∃ n, n = p.length := ⟨_, rfl⟩
  obtain ⟨m, hm⟩ : ∃ m, m = xs.length := ⟨_, rfl⟩
  rw [← hn] at h0 ht hn3
  rw [← hm] at hcell hkl h7 HG
  have ht3 : (t : Int) < 3 := by omega
  have hgl : g < w.heap.size := World.block_lt_of_cell? w ⟨g, 0, none⟩ h0
  have f := fun (j : Nat) (v : Value) (hj : w.cell? ⟨g, j, none⟩ = some v) => (((Below.refl w.heap.size w).alloc (Nat.le_refl _) (.cells #[.int .i64 0, .int .i64 0, .int .i64 0, .int .i64 0] 70)).cell (p := ⟨g, j, none⟩) hgl).trans hj
  by_cases hkm : k < m
  · have HX := hid (show ∃ x, xs[k]? = some x from ⟨_, List.getElem?_eq_getElem (by omega)⟩)
    obtain ⟨x, hx⟩ := HX.out
    obtain ⟨rb, ro, x', hra, hrl, hx', hins⟩ := hrx.ins k (by omega)
    obtain rfl : x = x' := by rw [hx] at hx'; exact Option.some.inj hx'
    subst hra
    have HNX := hid (nxt_of hxs hk hx)
    rw [decide_eq_true hkm] at HG
    have d0 : decide ((m : Int) ≤ (k : Int)) = false := decide_eq_false (by omega)
    have hB := (Below.refl w.heap.size w).alloc (Nat.le_refl _) (.cells #[.int .i64 0, .int .i64 0, .int .i64 0, .int .i64 0] 70)
    obtain ⟨i0, i1, i2, i3⟩ := hins.below (below_drewN 1 hB) hrl
    have hins' := hins
    rw [HG.out, HNX.out]
    obtain ⟨op, loc, reg, val⟩ := x
    clear hrp hpc hxs hxl hk HX hx hx' hn hm HG HNX hv h hrx
    obtain ⟨j0, j1, j2, j3⟩ := hins'
    go_enter Try.func136, Try.ntmps136
    go_wp2_with fail
    refine wp_region_mix (by kernel_rfl) (by kernel_rfl) ?_
    go_wp2_with (first | (with_reducible refine wpMix_nil ?_) | (with_reducible refine wpMix_rd rfl rfl (fun K hK => ?_); go_simp; (try go_bits); refine hK _ ?_; clear hK K))
    refine wp_region_mix (by kernel_rfl) (by kernel_rfl) ?_
    go_wp2_with (first | (with_reducible refine wpMix_nil ?_) | (with_reducible refine wpMix_rd rfl rfl (fun K hK => ?_); go_simp; (try go_bits); refine hK _ ?_; clear hK K) | (with_reducible refine wpMix_act (o := ⟨_, .store _ _ _, _, _, _, _⟩) rfl rfl (fun K hK => ?_)))
    exact bodyPost_ret (v := .tuple #[.agg #[.int .i64 op, .int .i64 loc, .int .i64 reg, .int .i64 val], .bool true]) (by simp [results, Try.results136, go_sem]) rfl ⟨rfl, below_drewN 2 ((Below.refl _ _).alloc (Nat.le_refl _) _)⟩
  · have d0 : decide ((m : Int) ≤ (k : Int)) = true := decide_eq_true (by omega)
    rw [decide_eq_false hkm] at HG
    rw [HG.out]
    clear hrp hpc hxs hxl hk hn hm HG hv h hrx
    go_enter Try.func136, Try.ntmps136
    go_wp2_with fail
    refine wp_region_mix (by kernel_rfl) (by kernel_rfl) ?_
    go_wp2_with (first | (with_reducible refine wpMix_nil ?_) | (with_reducible refine wpMix_rd rfl rfl (fun K hK => ?_); go_simp; (try go_bits); refine hK _ ?_; clear hK K) | (with_reducible refine wpMix_act (o := ⟨_, .store _ _ _, _, _, _, _⟩) rfl rfl (fun K hK => ?_)))
    exact bodyPost_ret (v := .tuple #[insZ.v, .bool false]) (by simp [results, Try.results136, go_sem, insZ]) rfl ⟨rfl, below_drewN 1 ((Below.refl _ _).alloc (Nat.le_refl _) _)⟩
end Go.Proofs.Ythlmfjoiicnomaa
