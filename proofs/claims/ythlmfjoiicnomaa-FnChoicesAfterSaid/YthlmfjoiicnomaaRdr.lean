/-
  PROVED HERE: what the drawing of numbers out of a text's bytes does: spec.l17Open, l17Rd.pick, num. CONDITIONS: as each theorem states.
-/
import Derived.Test.YthlmfjoiicnomaaBf
import Derived.Test.YthlmfjoiicnomaaPrz
namespace Go.Proofs.Ythlmfjoiicnomaa
open Go.RowKit
set_option linter.unusedVariables false
set_option linter.unusedSimpArgs false

abbrev u8s (bs : List Int) : List Value := bs.map (Value.int .u8)

theorem grown_trans {w w1 w2 : World} {row row2 : Option Nat} (h1 : w.grownBy w1 row) (h2 : w1.grownBy w2 row2) (hr : ∀ k, row2 = some k → some k = row ∨ w.heap.size ≤ k) : w.grownBy w2 row :=
  ⟨h2.os.trans h1.os, h2.tape.trans h1.tape, h2.output.trans h1.output, Nat.le_trans h1.size h2.size, fun k hk hne =>
    (h2.block k (Nat.lt_of_lt_of_le hk h1.size) (fun e => by rcases hr k e.symm with h | h; exact hne h; omega)).trans (h1.block k hk hne)⟩
theorem grown_below {w w1 : World} (h : Below w.heap.size w w1) (row : Option Nat) : w.grownBy w1 row := ⟨h.os, h.tape, h.output, h.size, fun k hk _ => h.block k hk⟩
theorem grown_refl (w : World) (row : Option Nat) : w.grownBy w row := ⟨rfl, rfl, rfl, Nat.le_refl _, fun _ _ _ => rfl⟩
theorem grown_drewN {w w1 : World} {row : Option Nat} (h : w.grownBy w1 row) (n : Nat) : w.grownBy (w1.drewN n) row := ⟨h.os, h.tape, h.output, h.size, h.block⟩
theorem grown_alloc {w w1 : World} {row : Option Nat} (h : w.grownBy w1 row) (o : Obj) : w.grownBy (w1.alloc o) row :=
  grown_trans h (World.grownBy_alloc w1 o none) (fun k hk => by cases hk)

/-- The source of numbers that lies in block g: its bytes, and how many have been taken. -/
def Rdr (w : World) (g : Nat) (bs : List Int) (p : Nat) : Prop :=
  ∃ ba bc, w.heap[g]? = some (.cells #[.slice ba bs.length bc, .int .i64 (p : Int)] 91 (0, 0)) ∧
    (bs = [] ∨ ∃ b off, ba = some ⟨b, off, none⟩ ∧ b < g ∧ ∀ j u, (u8s bs)[j]? = some u → w.cell? ⟨b, off + j, none⟩ = some u) ∧ bs.length ≤ 2000 ∧ ∀ x ∈ bs, 0 ≤ x ∧ x ≤ 255

theorem Rdr.lt {w : World} {g : Nat} {bs : List Int} {p : Nat} (h : Rdr w g bs p) : g < w.heap.size := by
  obtain ⟨ba, bc, h, _⟩ := h
  exact (Array.getElem?_eq_some_iff.1 h).1
/-- A world in which the source's block is as it was. -/
theorem Rdr.kept {w w' : World} {g : Nat} {bs : List Int} {p : Nat} (h : Rdr w g bs p) {row : Option Nat} (hg : w.grownBy w' row) (hr : ∀ k, row = some k → g < k) : Rdr w' g bs p := by
  have hlt := h.lt
  obtain ⟨ba, bc, hh, hb, r⟩ := h
  refine ⟨ba, bc, by rw [hg.block g hlt (fun e => by have := hr g e.symm; omega)]; exact hh, hb.imp id ?_, r⟩
  rintro ⟨b, off, rfl, hlt, hc⟩
  exact ⟨b, off, rfl, hlt, fun j u hj => hg.cell (hc j u hj) (fun e => by have := hr b e.symm; omega)⟩
theorem Rdr.below {w w' : World} {g : Nat} {bs : List Int} {p : Nat} (h : Rdr w g bs p) (hb : Below w.heap.size w w') : Rdr w' g bs p :=
  h.kept (row := none) (grown_below hb none) (fun k hk => by cases hk)
/-- A row of numbers lies beside the source. -/
theorem own_rdr {w w' : World} {g : Nat} {bs : List Int} {p : Nat} (hr : Rdr w g bs p) {base n : Nat} {v : Value} {cs : List Value} (h : w.ownsRow base 3 1 v n cs) (hg : w.grownBy w' (some g)) : w'.ownsRow base 3 1 v n cs := by
  refine ⟨h.1, h.2.imp id ?_⟩
  rintro ⟨g', cap, cur, hv, hb, hh, r⟩
  refine ⟨g', cap, cur, hv, hb, ?_, r⟩
  rw [hg.block g' (Array.getElem?_eq_some_iff.1 hh).1 (fun e => by
    cases e
    obtain ⟨ba, bc, h2, _⟩ := hr
    rw [h2] at hh
    simp at hh)]
  exact hh
theorem below_rdr {w w1 w2 : World} {N g : Nat} (h : Below N w w1) (hg : w1.grownBy w2 (some g)) (hN : N ≤ g) (hs : N ≤ w1.heap.size) : Below N w w2 :=
  h.grown hg hs (fun k hk => by cases hk; exact hN)

theorem bits_xor_i64 (x y : Nat) (hx : x < 1099511627776) (hy : y < 1099511627776) : bits .xor .i64 x y = ((x ^^^ y : Nat) : Int) := by
  have hp : (1099511627776 : Nat) = 2 ^ 40 := by decide
  have hz : x ^^^ y < 2 ^ 40 := Nat.xor_lt_two_pow (by omega) (by omega)
  have h64 : (2 : Nat) ^ 64 = 18446744073709551616 := by decide
  simp only [bits, BitVec.ofInt_natCast]
  show IntKind.i64.wrap (((BitVec.ofNat 64 x ^^^ BitVec.ofNat 64 y).toNat : Nat) : Int) = _
  rw [BitVec.toNat_xor, BitVec.toNat_ofNat, BitVec.toNat_ofNat, Nat.mod_eq_of_lt (by omega), Nat.mod_eq_of_lt (by omega)]
  exact IntWalk.i64_in _ (by omega)

theorem byte_at {w : World} {g : Nat} {bs : List Int} {ba : Option Addr} (hb : bs = [] ∨ ∃ b off, ba = some ⟨b, off, none⟩ ∧ b < g ∧ ∀ j u, (u8s bs)[j]? = some u → w.cell? ⟨b, off + j, none⟩ = some u)
    (hwf : ∀ x ∈ bs, 0 ≤ x ∧ x ≤ 255) (h0 : 0 < bs.length) :
    ∃ b off, ba = some ⟨b, off, none⟩ ∧ b ≠ g ∧ ∀ k, k < bs.length → ∃ y : Int, 0 ≤ y ∧ y ≤ 255 ∧ w.cell? ⟨b, off + k, none⟩ = some (.int .u8 y) := by
  rcases hb with rfl | ⟨b, off, rfl, hlt, hc⟩
  · simp at h0
  · refine ⟨b, off, rfl, by omega, fun k hk => ⟨bs[k], (hwf _ (List.getElem_mem hk)).1, (hwf _ (List.getElem_mem hk)).2, hc k _ (by simp [hk])⟩⟩

set_option maxHeartbeats 1600000 in
theorem pick_c (w : World) (g : Nat) (bs : List Int) (p : Nat) (n : Int) (h : Rdr w g bs p) (hp : p ≤ 1000000) (hn : n ≤ 1000000000) :
    Calls Try.prog 58 #[.pointer (some ⟨g, 0, none⟩), .int .i64 n] w fun e w' => ∃ x : Int, e = .returned (.int .i64 x) ∧ 0 ≤ x ∧ (x < n ∨ x = 0) ∧ Rdr w' g bs (p + 1) ∧ w.grownBy w' (some g) := by
  have hlt := h.lt
  obtain ⟨ba, bc, hh, hb, hl, hwf⟩ := h
  have HN := hid (fun (W : World) (m : Nat) (hW : W = (w.setCell ⟨g, 1, none⟩ (.int .i64 ((p : Int) + 1))).drewN m) => show Rdr W g bs (p + 1) ∧ w.grownBy W (some g) by
    subst hW
    have hg : w.grownBy (w.setCell ⟨g, 1, none⟩ (.int .i64 ((p : Int) + 1))) (some g) := ⟨rfl, rfl, rfl, by simp, fun k _ hk => heap_setCell_other w ⟨g, 1, none⟩ k _ (fun e => hk (by simp [e]))⟩
    refine ⟨⟨ba, bc, ?_, ?_, hl, hwf⟩, ⟨hg.os, hg.tape, hg.output, hg.size, hg.block⟩⟩
    · have := heap_setCell_same w g 1 _ _ (.int .i64 ((p : Int) + 1)) hh
      simpa using this
    · refine hb.imp id ?_
      rintro ⟨b, off, rfl, hlt', hc⟩
      exact ⟨b, off, rfl, hlt', fun j u hj => hg.cell (hc j u hj) (by simp; omega)⟩)
  have c0 : w.cell? ⟨g, 0, none⟩ = some (.slice ba bs.length bc) := by rw [cell_of_row w g 0 _ _ _ hh]; rfl
  have c1 : w.cell? ⟨g, 1, none⟩ = some (.int .i64 p) := by rw [cell_of_row w g 1 _ _ _ hh]; rfl
  have f1 : w.frozen? ⟨g, 1, none⟩ = false := frozen_of_row w g 1 _ _ hh
  have d0 : (w.setCell ⟨g, 1, none⟩ (.int .i64 ((p : Int) + 1))).cell? ⟨g, 0, none⟩ = some (.slice ba bs.length bc) := by
    rw [cell_of_row _ g 0 _ _ _ (heap_setCell_same w g 1 _ _ (.int .i64 ((p : Int) + 1)) hh)]; rfl
  have d1 : (w.setCell ⟨g, 1, none⟩ (.int .i64 ((p : Int) + 1))).cell? ⟨g, 1, none⟩ = some (.int .i64 ((p : Int) + 1)) := by
    rw [cell_of_row _ g 1 _ _ _ (heap_setCell_same w g 1 _ _ (.int .i64 ((p : Int) + 1)) hh)]; rfl
  obtain ⟨m, hm⟩ : ∃ m, m = bs.length := ⟨_, rfl⟩
  by_cases hn1 : n < 1
  · clear hb hwf hh
    go_enter Try.func58, Try.ntmps58
    go_wp2
    go_ret
    exact ⟨0, rfl, by omega, .inr rfl, HN.out _ 0 rfl⟩
  · have e1 : decide (n < 1) = false := by simpa using hn1
    have n1 : 1 ≤ n := by omega
    have HM := hid (fun x : Int => (⟨Int.emod_nonneg x (by omega), Int.emod_lt_of_pos x (by omega)⟩ : 0 ≤ x % n ∧ x % n < n))
    by_cases h0 : m = 0
    · subst h0
      rw [← hm] at c0 d0
      clear hb hwf hh hm
      go_enter Try.func58, Try.ntmps58
      go_wp2
      go_ret
      exact ⟨0, rfl, by omega, .inr rfl, HN.out _ 0 rfl⟩
    · obtain ⟨b, off, rfl, hne, hbytes⟩ := byte_at hb hwf (by omega)
      have HB := hid hbytes
      have e2 : ((m : Int) == 0) = false := by simp; omega
      rw [← hm] at c0 d0 HB
      clear hb hwf hh hm hbytes
      by_cases hk : p < m
      · obtain ⟨y, hy0, hy1, hc⟩ := HB.out p hk
        have hc' : (w.setCell ⟨g, 1, none⟩ (.int .i64 ((p : Int) + 1))).cell? ⟨b, off + p, none⟩ = some (.int .u8 y) := by
          rw [World.cell?_of_block (heap_setCell_other w ⟨g, 1, none⟩ b _ hne)]; exact hc
        clear hc
        go_enter Try.func58, Try.ntmps58
        go_wp2
        go_ret
        exact ⟨_, rfl, (HM.out _).1, .inl (HM.out _).2, HN.out _ 0 rfl⟩
      · have hmp : 0 < m := by omega
        have q1 : p % m < m := Nat.mod_lt _ hmp
        have q2 : (p * 7 + 3) % m < m := Nat.mod_lt _ hmp
        obtain ⟨y, hy0, hy1, hc⟩ := HB.out (p % m) q1
        obtain ⟨z, hz0, hz1, hcz⟩ := HB.out ((p * 7 + 3) % m) q2
        have hc' : (w.setCell ⟨g, 1, none⟩ (.int .i64 ((p : Int) + 1))).cell? ⟨b, off + p % m, none⟩ = some (.int .u8 y) := by
          rw [World.cell?_of_block (heap_setCell_other w ⟨g, 1, none⟩ b _ hne)]; exact hc
        have hcz' : (w.setCell ⟨g, 1, none⟩ (.int .i64 ((p : Int) + 1))).cell? ⟨b, off + (p * 7 + 3) % m, none⟩ = some (.int .u8 z) := by
          rw [World.cell?_of_block (heap_setCell_other w ⟨g, 1, none⟩ b _ hne)]; exact hcz
        have q3 : (p : Int) / m ≤ p := Int.ediv_le_self _ (by omega)
        have q4 : (0 : Int) ≤ (p : Int) / m := Int.ediv_nonneg (by omega) (by omega)
        have q5 : (p : Int) % m < m := Int.emod_lt_of_pos _ (by omega)
        have q6 : (0 : Int) ≤ (p : Int) % m := Int.emod_nonneg _ (by omega)
        have q7 : ((p : Int) * 7 + 3) % m < m := Int.emod_lt_of_pos _ (by omega)
        have q8 : (0 : Int) ≤ ((p : Int) * 7 + 3) % m := Int.emod_nonneg _ (by omega)
        have m1 : (1 : Int) ≤ m := by omega
        have hk' : decide ((p : Int) < m) = false := by simp; omega
        clear hc hcz
        go_enter Try.func58, Try.ntmps58
        go_wp2_with fail
        refine wp_region_mix (by kernel_rfl) (by kernel_rfl) ?_
        go_wp2_with (with_reducible refine wpMix_rd rfl rfl (fun K hK => ?_); go_simp; (try go_bits); refine hK _ ?_; clear hK K)
        refine wpMix_nil ?_
        obtain ⟨X, hX⟩ : ∃ X : Int, X = y * 131 + z * 1117 + ↑p * 29 + ↑p / ↑m * 53 := ⟨_, rfl⟩
        rw [← hX]
        have hX0 : 0 ≤ X := by omega
        have hX1 : X ≤ 200000000 := by omega
        obtain ⟨Z, hZ⟩ : ∃ Z : Nat, bits .xor .i64 X (X / 64) = (Z : Int) := by
          refine ⟨X.toNat ^^^ (X.toNat / 64), ?_⟩
          have e1 : X = ((X.toNat : Nat) : Int) := by omega
          have e2 : X / 64 = ((X.toNat / 64 : Nat) : Int) := by omega
          rw [e2]
          conv => lhs; rw [e1]
          exact bits_xor_i64 _ _ (by omega) (by omega)
        have hZ0 : (0 : Int) ≤ (Z : Int) := by omega
        clear hX hc' hcz' q1 q2 q3 q4 q5 q6 q7 q8 c0 d0 d1 c1 f1
        go_wp2
        go_ret
        exact ⟨_, rfl, (HM.out _).1, .inl (HM.out _).2, HN.out _ 1 rfl⟩

theorem num_c (w : World) (g : Nat) (bs : List Int) (p : Nat) (a : Option Addr) (cap : Nat) (xs : List Int) (h : Rdr w g bs p) (hp : p ≤ 1000000) (hx : Rd w a (ints xs)) (hne : ∀ b, blk a = some b → b ≠ g) (h0 : 0 < xs.length) (hl : xs.length ≤ 1000) :
    Calls Try.prog 60 #[.pointer (some ⟨g, 0, none⟩), .slice a xs.length cap] w fun e w' => ∃ x : Int, e = .returned (.int .i64 x) ∧ x ∈ xs ∧ Rdr w' g bs (p + 1) ∧ w.grownBy w' (some g) := by
  have C := hid (pick_c w g bs p xs.length h hp (by omega))
  have HX := hid hx
  have HNE := hid hne
  clear h hx hne
  go_enter Try.func60, Try.ntmps60
  go_wp2_with fail
  refine C.out.mono ?_
  rintro e w1 ⟨i, rfl, hi0, hi1, hr, hg⟩
  have hi : i < xs.length := by omega
  obtain ⟨j, rfl⟩ : ∃ j : Nat, i = j := ⟨i.toNat, by omega⟩
  have hj : j < xs.length := by omega
  obtain ⟨b, off, rfl, hb, hc⟩ := HX.out.int j hj
  have hc1 := hg.cell hc (by simpa using HNE.out b rfl)
  obtain ⟨x, hx⟩ : ∃ x, x = xs[j] := ⟨_, rfl⟩
  rw [← hx] at hc1
  have HM := hid (show x ∈ xs by rw [hx]; exact List.getElem_mem hj)
  clear hc hx
  go_wp2
  go_ret
  exact ⟨x, rfl, HM.out, hr, hg⟩

theorem open_c (w : World) (a : Option Addr) (cap : Nat) (bs : List Int) (h : Rd w a (u8s bs)) (hwf : ∀ x ∈ bs, 0 ≤ x ∧ x ≤ 255) (hl : bs.length ≤ 1048576) (hcap : bs.length ≤ cap) (hcm : cap ≤ 9223372036854775807) :
    Calls Try.prog 30 #[.slice a bs.length cap] w fun e w' => ∃ (bs' : List Int), e = .returned (.pointer (some ⟨w.heap.size, 0, none⟩)) ∧ Rdr w' w.heap.size bs' 0 ∧ Below w.heap.size w w' := by
  have H := hid h
  have HW := hid hwf
  have HR := hid (fun (bs' : List Int) (c : Nat) (hb : Rd w a (u8s bs')) (hw : ∀ x ∈ bs', 0 ≤ x ∧ x ≤ 255) (hl : bs'.length ≤ 2000) => show Rdr (w.alloc (.cells #[.slice a bs'.length c, .int .i64 0] 91)) w.heap.size bs' 0 from by
    refine ⟨a, c, heap_alloc_new w _, ?_, hl, hw⟩
    rcases hb with hb | ⟨b, off, rfl, hlt, hc⟩
    · exact .inl (by simpa using hb)
    · refine .inr ⟨b, off, rfl, hlt, fun j u hj => ?_⟩
      exact (((Below.refl w.heap.size w).alloc (Nat.le_refl _) _).cell (p := ⟨b, off + j, none⟩) hlt).trans (hc j u hj))
  clear h hwf
  by_cases h2 : (2000 : Int) < bs.length
  · have h20 : (2000 : Int) ≤ cap := by omega
    go_enter Try.func30, Try.ntmps30
    go_wp2
    go_ret
    refine ⟨bs.take 2000, rfl, ?_, (Below.refl _ _).alloc (Nat.le_refl _) _⟩
    have hlen : (bs.take 2000).length = 2000 := by rw [List.length_take]; omega
    have := HR.out (bs.take 2000) cap (by
      rcases H.out with hb | ⟨b, off, rfl, hlt, hc⟩
      · exact .inl (by simp at hb; simp [hb])
      · refine .inr ⟨b, off, rfl, hlt, fun j u hj => hc j u ?_⟩
        simp only [List.map_take, List.getElem?_take] at hj
        split at hj
        · exact hj
        · cases hj) (fun x hx => HW.out x (List.mem_of_mem_take hx)) (by omega)
    rw [hlen] at this
    exact this
  · have d2 : decide ((2000 : Int) < bs.length) = false := by simpa using h2
    go_enter Try.func30, Try.ntmps30
    go_wp2
    go_ret
    have hfin := HR.out bs cap H.out HW.out (by omega)
    first | exact ⟨bs, rfl, hfin, (Below.refl _ _).alloc (Nat.le_refl _) _⟩ | exact ⟨rfl, ⟨bs, hfin⟩, (Below.refl _ _).alloc (Nat.le_refl _) _⟩

theorem IsRow.cap {k : IntKind} {w : World} {a : Option Addr} {len cap : Nat} {zs : List Int} (h : IsRow k w a len cap zs) : len ≤ cap ∧ cap ≤ 9223372036854775807 := by
  rcases h with ⟨rfl, rfl, rfl, rfl⟩ | ⟨x, rfl, h1, h2, _⟩
  · exact ⟨Nat.le_refl _, by omega⟩
  · exact ⟨h1, by unfold maxLen at h2; omega⟩
theorem byte_wf {bs : List Int} (h : ∀ n ∈ bs, (Lit.int .u8 n).wf = true) : ∀ x ∈ bs, 0 ≤ x ∧ x ≤ 255 := by
  intro x hx
  have := h x hx
  simp only [Lit.wf, Bool.and_eq_true, decide_eq_true_eq] at this
  exact this
end Go.Proofs.Ythlmfjoiicnomaa
