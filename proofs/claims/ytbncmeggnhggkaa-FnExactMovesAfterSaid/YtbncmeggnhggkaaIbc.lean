/-
  PROVED HERE: what slices.Clone does over bytes and rows of bytes, what newBuffers does. CONDITIONS: as each theorem states.
-/
import Derived.Test.YtbncmeggnhggkaaIba
namespace Go.Proofs.Ytbncmeggnhggkaa
open Go.RowKit
set_option linter.unusedVariables false
set_option linter.unusedSimpArgs false

theorem Try.info_rowB : (Try.prog.info? 138).map (fun i => (i.zero, i.size, i.bytes)) = some (some (.slice none 0 0), 1, 24) := by kernel_rfl
theorem Try.info_byte : (Try.prog.info? 5).map (fun i => (i.zero, i.size, i.bytes)) = some (some (.int .u8 0), 1, 1) := by kernel_rfl
theorem eqnilW_some (a : Addr) (n cap : Nat) (w : World) : (binOp .eql 101 (.slice (some a) n cap) (.slice none 0 0)).run Try.prog w = .ok (.bool false) w := by kernel_rfl
theorem eqnilB_some (a : Addr) (n cap : Nat) (w : World) : (binOp .eql 138 (.slice (some a) n cap) (.slice none 0 0)).run Try.prog w = .ok (.bool false) w := by kernel_rfl
theorem eqnilB_none (n cap : Nat) (w : World) : (binOp .eql 138 (.slice none n cap) (.slice none 0 0)).run Try.prog w = .ok (.bool true) w := by kernel_rfl
set_option maxRecDepth 100000 in
theorem cloneW_c (w : World) (a : Addr) (n cap : Nat) (cs : List Value) (h : Rd w (some a) cs) (hl : cs.length = n) (h1 : ∀ u ∈ cs, u.oneCell' = true) (hn : n ≤ 1000) :
    Calls Try.prog 131 #[.slice (some a) n cap] w fun e w' => ∃ a' c', e = .returned (.slice a' n c') ∧ w'.ownsRow w.heap.size 138 1 (.slice a' n c') n cs ∧ Below w.heap.size w w' := by
  have HR := hid (h.alloc (.cells #[] 138))
  have HB := hid ((Below.refl w.heap.size w).alloc (Nat.le_refl _) (.cells #[] 138))
  have HO := hid (own_lit0 w w.heap.size 138 1 (Nat.le_refl _))
  have HL := hid hl
  have H1 := hid h1
  clear h hl h1
  have hE := eqnilW_some a n cap w
  go_enter Try.func131, Try.ntmps131
  go_wp2_with (at_builtin; refine wpList_append_rd rfl (.tmp 5) (.tmp 6) 101 rfl w.heap.size 138 (.slice none 0 0) 1 24 Try.underlying101 Try.info_rowB rfl (by decide) _ _ _ rfl HO.out (some a) n cap cs rfl HR.out (by rw [HL.out]; omega) H1.out (by omega) (by decide) (by simp) ?_)
  intro v5 w5 hown5 hgrow5 hat5
  obtain ⟨a5, c5, rfl, _⟩ := own_shape hown5
  have HO5 := hid (show w5.ownsRow w.heap.size 138 1 (.slice a5 n c5) n cs from by simpa using hown5)
  have HB5 := hid (HB.out.grown hgrow5 (by simp) (fun b hb => (HO.out.lt b hb).1))
  clear hown5 hgrow5 hat5
  go_wp2
  go_ret
  exact ⟨_, _, rfl, HO5.out, HB5.out⟩
set_option maxRecDepth 100000 in
theorem cloneB_c (w : World) (a : Option Addr) (n cap : Nat) (xs : List Int) (h : Rd w a (b8s xs)) (hl : xs.length = n) (hn : n ≤ 1000) :
    Calls Try.prog 134 #[.slice a n cap] w fun e w' => ∃ a' c', e = .returned (.slice a' n c') ∧ w'.ownsRow w.heap.size 5 1 (.slice a' n c') n (b8s xs) ∧ Below w.heap.size w w' := by
  cases a with
  | none =>
    have hx : xs = [] := by
      rcases h with h | ⟨b, off, h, _⟩
      · simpa using h
      · cases h
    subst hx
    subst hl
    clear h hn
    have hE := eqnilB_none 0 cap w
    go_enter Try.func134, Try.ntmps134
    go_wp2
    go_ret
    exact ⟨none, 0, rfl, own_none w _ _ 1, Below.refl _ _⟩
  | some a =>
    have HR := hid (h.alloc (.cells #[] 5))
    have HB := hid ((Below.refl w.heap.size w).alloc (Nat.le_refl _) (.cells #[] 5))
    have HO := hid (own_lit0 w w.heap.size 5 1 (Nat.le_refl _))
    have HL := hid hl
    clear h hl
    have hE := eqnilB_some a n cap w
    go_enter Try.func134, Try.ntmps134
    go_wp2_with (at_builtin; refine wpList_append_rd rfl (.tmp 5) (.tmp 6) 138 rfl w.heap.size 5 (.int .u8 0) 1 1 Try.underlying138 Try.info_byte rfl (by decide) _ _ _ rfl HO.out (some a) n cap (b8s xs) rfl HR.out (by rw [List.length_map, HL.out]; omega) (ints_one _ _) (by omega) (by decide) (by simp) ?_)
    intro v5 w5 hown5 hgrow5 hat5
    obtain ⟨a5, c5, rfl, _⟩ := own_shape hown5
    have HO5 := hid (show w5.ownsRow w.heap.size 5 1 (.slice a5 n c5) n (b8s xs) from by simpa using hown5)
    have HB5 := hid (HB.out.grown hgrow5 (by simp) (fun b hb => (HO.out.lt b hb).1))
    clear hown5 hgrow5 hat5
    go_wp2
    go_ret
    exact ⟨_, _, rfl, HO5.out, HB5.out⟩

theorem rdW_zero {w : World} {a : Option Addr} {n : Nat} (h : Rd w a (List.replicate n (.slice none 0 0))) : RdW w a (List.replicate n []) := by
  refine ⟨List.replicate n (none, 0), by simp, ?_, fun k r xs h1 h2 => ?_⟩
  · have e : rowsW (List.replicate n (none, 0)) (List.replicate n []) = List.replicate n (.slice none 0 0) := by
      unfold rowsW
      rw [List.zipWith_replicate']
      rfl
    rw [e]; exact h
  · have e1 := (List.mem_replicate.1 (List.mem_of_getElem? h1)).2
    have e2 := (List.mem_replicate.1 (List.mem_of_getElem? h2)).2
    subst e1
    subst e2
    exact ⟨.inl rfl, Nat.le_refl _⟩
set_option maxRecDepth 100000 in
set_option maxHeartbeats 800000 in
theorem newBuffers_c (w : World) (a : Option Addr) (cap : Nat) (p : Prg) (split : Bool) (h : RdP w a p) (hv : Shape p) :
    Calls Try.prog 47 #[.slice a p.length cap, .bool split] w fun e w' => ∃ g, e = .returned (.iface 100 (.pointer (some ⟨g, 0, none⟩))) ∧ BAt w' g p split (start4 p split) ∧ Below w.heap.size w w' := by
  have HV := hid (valC_start a p.length cap p hv.len (p.length * nb split))
  have HG := hid (good_start4 p split)
  have HP := hid h
  have hn3 := hv.len
  obtain ⟨n, hn⟩ : ∃ n, n = p.length := ⟨_, rfl⟩
  have HN := hid hn
  rw [← hn] at HV hn3 ⊢
  clear hn h hv
  obtain ⟨i0, hi, hz0, hz1, hz2⟩ := info_parts Try.info_rowB
  have HMK := hid (fun n => show (madeCells (Value.slice none 0 0).cells (n * 1)).toList = List.replicate n (.slice none 0 0) from by simp [toList_madeCells_one, Value.cells])
  have HB4 := hid (show (start4 p split).buf = List.replicate (p.length * nb split) [] from rfl)
  cases split
  · go_enter Try.func47, Try.ntmps47
    go_wp2_with (at_make; refine wpList_make_full _ rfl _ _ 101 rfl w.heap.size 138 i0 (.slice none 0 0) 1 Try.underlying101 hi hz0 hz1 .i64 .i64 _ _ n rfl rfl rfl rfl (by rw [hz2]; omega) (by unfold maxLen; omega) (Nat.le_refl _) ?_; intro w1 hown hgrow)
    go_ret
    rw [HMK.out] at hown
    have hb1 : Below w.heap.size w w1 := (Below.refl _ _).grown hgrow (Nat.le_refl _) (by simp)
    have hba := (Below.refl w1.heap.size w1).alloc (Nat.le_refl _) (.cells #[.slice a n cap, .int .u8 0, .int .u8 0, .int .u8 0, .int .u8 0, .int .u8 0, .int .u8 0, .int .u8 0, .int .u8 0, .int .u8 0, .int .u8 0, .int .u8 0, .int .u8 0, .int .u8 0, .int .u8 0, .int .u8 0, .bool false, .slice (some ⟨w.heap.size, 0, none⟩) n n] 103)
    refine ⟨_, rfl, ⟨⟨a, cap, some ⟨w.heap.size, 0, none⟩, n, ?_, ?_, ?_, ?_⟩, HG.out⟩, hb1.trans (hba.mono hb1.size)⟩
    · rw [heap_alloc_new w1 _, HB4.out, ← HN.out]
      unfold start4
      rw [← HN.out, HV.out]
      simp [nb, List.replicate]
    · exact HP.out.below (hb1.trans (hba.mono hb1.size))
    · rw [HB4.out, ← HN.out]
      have := (rdW_zero (Rd.own hown)).below hba
      simpa [nb] using this
    · rw [HB4.out, ← HN.out]; simp [nb]
  · go_enter Try.func47, Try.ntmps47
    go_wp2_with (first | (at_make; refine wpList_make_full _ rfl _ _ 101 rfl w.heap.size 138 i0 (.slice none 0 0) 1 Try.underlying101 hi hz0 hz1 .i64 .i64 _ _ n rfl rfl rfl rfl (by rw [hz2]; omega) (by unfold maxLen; omega) (Nat.le_refl _) ?_; intro w1 hown hgrow) | (at_make; refine wpList_make_full _ rfl _ _ 101 rfl w.heap.size 138 i0 (.slice none 0 0) 1 Try.underlying101 hi hz0 hz1 .i64 .i64 _ _ (3 * n) rfl rfl (by omega) (by omega) (by rw [hz2]; omega) (by unfold maxLen; omega) (by simp; exact Nat.le_succ_of_le hgrow.size) ?_; intro w2 hown2 hgrow2; have hgb := (hgrow2.block w1.heap.size (by simp) (by simp)).trans (heap_alloc_new w1 _); have c17 : w2.cell? ⟨w1.heap.size, 17, none⟩ = some (.slice (some ⟨w.heap.size, 0, none⟩) n n) := (cell_of_row w2 w1.heap.size 17 _ _ _ hgb).trans rfl; have f17 := frozen_of_row w2 w1.heap.size 17 _ _ hgb))
    go_ret
    rw [HMK.out] at hown2
    have hb1 : Below w.heap.size w w1 := (Below.refl _ _).grown hgrow (Nat.le_refl _) (by simp)
    have hba := (Below.refl w1.heap.size w1).alloc (Nat.le_refl _) (.cells #[.slice a n cap, .int .u8 0, .int .u8 0, .int .u8 0, .int .u8 0, .int .u8 0, .int .u8 0, .int .u8 0, .int .u8 0, .int .u8 0, .int .u8 0, .int .u8 0, .int .u8 0, .int .u8 0, .int .u8 0, .int .u8 0, .bool true, .slice (some ⟨w.heap.size, 0, none⟩) n n] 103)
    have hb2 := (hb1.trans (hba.mono hb1.size)).grown hgrow2 (by simp; exact Nat.le_succ_of_le hb1.size) (by simp)
    have hs1 := hb1.size
    have hb3 := hb2.setCell (p := ⟨w1.heap.size, 17, none⟩) hs1 (.slice (some ⟨w1.heap.size + 1, 0, none⟩) (3 * n) (3 * n))
    simp only [World.size_alloc] at hown2
    have hown3 := own_keeps hown2 (Keeps.setCell w2 ⟨w1.heap.size, 17, none⟩ (.slice (some ⟨w1.heap.size + 1, 0, none⟩) (3 * n) (3 * n))) (fun b hb e => by simp [blk] at hb; simp at e; omega)
    have em : n * nb true = 3 * n := by simp [nb]; omega
    refine ⟨_, rfl, ⟨⟨a, cap, some ⟨w1.heap.size + 1, 0, none⟩, 3 * n, ?_, ?_, ?_, ?_⟩, HG.out⟩, ?_⟩
    · rw [heap_setCell_same w2 w1.heap.size 17 _ _ _ hgb, HB4.out, ← HN.out]
      unfold start4
      rw [← HN.out, HV.out, em]
      simp [List.replicate]
    · exact HP.out.below hb3
    · rw [HB4.out, ← HN.out, em]
      exact rdW_zero (Rd.own hown3)
    · rw [HB4.out, ← HN.out, em]; simp
    · exact hb3
end Go.Proofs.Ytbncmeggnhggkaa
