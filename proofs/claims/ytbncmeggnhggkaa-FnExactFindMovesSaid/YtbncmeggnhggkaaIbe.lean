/-
  PROVED HERE: what slices.Clone does over bytes and rows of bytes, what newBuffers does. what (*buffers).after does where a write leaves a buffer. CONDITIONS: as each theorem states.
-/
import Derived.Test.YtbncmeggnhggkaaIba
namespace Go.Proofs.Ytbncmeggnhggkaa
open Go.RowKit
set_option linter.unusedVariables false
set_option linter.unusedSimpArgs false

theorem Try.info_rowB : (Try.prog.info? 138).map (fun i => (i.zero, i.size, i.bytes)) = some (some (.slice none 0 0), 1, 24) := by kernel_rfl
theorem Try.info_byte : (Try.prog.info? 5).map (fun i => (i.zero, i.size, i.bytes)) = some (some (.int .u8 0), 1, 1) := by kernel_rfl
theorem eqnilW_some (a : Addr) (n cap : Nat) (w : World) : (binOp .eql 101 (.slice (some a) n cap) (.slice none 0 0)).run Try.prog w = .ok (.bool false) w := by kernel_rfl
theorem eqnilB_some (a : Addr) (n cap : Nat) (w : World) : (binOp .eql 138 (.slice (some a) n cap) (.slice none 0 0)).run Try.prog w = .ok (.bool false) w := by kernel_rfl
theorem eqnilB_none (n cap : Nat) (w : World) : (binOp .eql 138 (.slice none n cap) (.slice none 0 0)).run Try.prog w = .ok (.bool true) w := by kernel_rfl
set_option maxRecDepth 100000 in
theorem cloneW_c (w : World) (a : Addr) (n cap : Nat) (cs : List Value) (h : Rd w (some a) cs) (hl : cs.length = n) (h1 : ∀ u ∈ cs, u.oneCell' = true) (hn : n ≤ 1000) :
    Calls Try.prog 131 #[.slice (some a) n cap] w fun e w' => ∃ a' c', e = .returned (.slice a' n c') ∧ w'.ownsRow w.heap.size 138 1 (.slice a' n c') n cs ∧ Below w.heap.size w w' := by
  have HR := hid (h.alloc (.cells #[] 138))
  have HB := hid ((Below.refl w.heap.size w).alloc (Nat.le_refl _) (.cells #[] 138))
  have HO := hid (own_lit0 w w.heap.size 138 1 (Nat.le_refl _))
  have HL := hid hl
  have H1 := hid h1
  clear h hl h1
  have hE := eqnilW_some a n cap w
  go_enter Try.func131, Try.ntmps131
  go_wp2_with (at_builtin; refine wpList_append_rd rfl (.tmp 5) (.tmp 6) 101 rfl w.heap.size 138 (.slice none 0 0) 1 24 Try.underlying101 Try.info_rowB rfl (by decide) _ _ _ rfl HO.out (some a) n cap cs rfl HR.out (by rw [HL.out]; omega) H1.out (by omega) (by decide) (by simp) ?_)
  intro v5 w5 hown5 hgrow5 hat5
  obtain ⟨a5, c5, rfl, _⟩ := own_shape hown5
  have HO5 := hid (show w5.ownsRow w.heap.size 138 1 (.slice a5 n c5) n cs from by simpa using hown5)
  have HB5 := hid (HB.out.grown hgrow5 (by simp) (fun b hb => (HO.out.lt b hb).1))
  clear hown5 hgrow5 hat5
  go_wp2
  go_ret
  exact ⟨_, _, rfl, HO5.out, HB5.out⟩
set_option maxRecDepth 100000 in
theorem cloneB_c (w : World) (a : Option Addr) (n cap : Nat) (xs : List Int) (h : Rd w a (b8s xs)) (hl : xs.length = n) (hn : n ≤ 1000) :
    Calls Try.prog 134 #[.slice a n cap] w fun e w' => ∃ a' c', e = .returned (.slice a' n c') ∧ w'.ownsRow w.heap.size 5 1 (.slice a' n c') n (b8s xs) ∧ Below w.heap.size w w' := by
  cases a with
  | none =>
    have hx : xs = [] := by
      rcases h with h | ⟨b, off, h, _⟩
      · simpa using h
      · cases h
    subst hx
    subst hl
    clear h hn
    have hE := eqnilB_none 0 cap w
    go_enter Try.func134, Try.ntmps134
    go_wp2
    go_ret
    exact ⟨none, 0, rfl, own_none w _ _ 1, Below.refl _ _⟩
  | some a =>
    have HR := hid (h.alloc (.cells #[] 5))
    have HB := hid ((Below.refl w.heap.size w).alloc (Nat.le_refl _) (.cells #[] 5))
    have HO := hid (own_lit0 w w.heap.size 5 1 (Nat.le_refl _))
    have HL := hid hl
    clear h hl
    have hE := eqnilB_some a n cap w
    go_enter Try.func134, Try.ntmps134
    go_wp2_with (at_builtin; refine wpList_append_rd rfl (.tmp 5) (.tmp 6) 138 rfl w.heap.size 5 (.int .u8 0) 1 1 Try.underlying138 Try.info_byte rfl (by decide) _ _ _ rfl HO.out (some a) n cap (b8s xs) rfl HR.out (by rw [List.length_map, HL.out]; omega) (ints_one _ _) (by omega) (by decide) (by simp) ?_)
    intro v5 w5 hown5 hgrow5 hat5
    obtain ⟨a5, c5, rfl, _⟩ := own_shape hown5
    have HO5 := hid (show w5.ownsRow w.heap.size 5 1 (.slice a5 n c5) n (b8s xs) from by simpa using hown5)
    have HB5 := hid (HB.out.grown hgrow5 (by simp) (fun b hb => (HO.out.lt b hb).1))
    clear hown5 hgrow5 hat5
    go_wp2
    go_ret
    exact ⟨_, _, rfl, HO5.out, HB5.out⟩

theorem rdW_zero {w : World} {a : Option Addr} {n : Nat} (h : Rd w a (List.replicate n (.slice none 0 0))) : RdW w a (List.replicate n []) := by
  refine ⟨List.replicate n (none, 0), by simp, ?_, fun k r xs h1 h2 => ?_⟩
  · have e : rowsW (List.replicate n (none, 0)) (List.replicate n []) = List.replicate n (.slice none 0 0) := by
      unfold rowsW
      rw [List.zipWith_replicate']
      rfl
    rw [e]; exact h
  · have e1 := (List.mem_replicate.1 (List.mem_of_getElem? h1)).2
    have e2 := (List.mem_replicate.1 (List.mem_of_getElem? h2)).2
    subst e1
    subst e2
    exact ⟨.inl rfl, Nat.le_refl _⟩
set_option maxRecDepth 100000 in
set_option maxHeartbeats 800000 in
theorem newBuffers_c (w : World) (a : Option Addr) (cap : Nat) (p : Prg) (split : Bool) (h : RdP w a p) (hv : Shape p) :
    Calls Try.prog 47 #[.slice a p.length cap, .bool split] w fun e w' => ∃ g, e = .returned (.iface 100 (.pointer (some ⟨g, 0, none⟩))) ∧ BAt w' g p split (start4 p split) ∧ Below w.heap.size w w' := by
  have HV := hid (valC_start a p.length cap p hv.len (p.length * nb split))
  have HG := hid (good_start4 p split)
  have HP := hid h
  have hn3 := hv.len
  obtain ⟨n, hn⟩ : ∃ n, n = p.length := ⟨_, rfl⟩
  have HN := hid hn
  rw [← hn] at HV hn3 ⊢
  clear hn h hv
  obtain ⟨i0, hi, hz0, hz1, hz2⟩ := info_parts Try.info_rowB
  have HMK := hid (fun n => show (madeCells (Value.slice none 0 0).cells (n * 1)).toList = List.replicate n (.slice none 0 0) from by simp [toList_madeCells_one, Value.cells])
  have HB4 := hid (show (start4 p split).buf = List.replicate (p.length * nb split) [] from rfl)
  cases split
  · go_enter Try.func47, Try.ntmps47
    go_wp2_with (at_make; refine wpList_make_full _ rfl _ _ 101 rfl w.heap.size 138 i0 (.slice none 0 0) 1 Try.underlying101 hi hz0 hz1 .i64 .i64 _ _ n rfl rfl rfl rfl (by rw [hz2]; omega) (by unfold maxLen; omega) (Nat.le_refl _) ?_; intro w1 hown hgrow)
    go_ret
    rw [HMK.out] at hown
    have hb1 : Below w.heap.size w w1 := (Below.refl _ _).grown hgrow (Nat.le_refl _) (by simp)
    have hba := (Below.refl w1.heap.size w1).alloc (Nat.le_refl _) (.cells #[.slice a n cap, .int .u8 0, .int .u8 0, .int .u8 0, .int .u8 0, .int .u8 0, .int .u8 0, .int .u8 0, .int .u8 0, .int .u8 0, .int .u8 0, .int .u8 0, .int .u8 0, .int .u8 0, .int .u8 0, .int .u8 0, .bool false, .slice (some ⟨w.heap.size, 0, none⟩) n n] 103)
    refine ⟨_, rfl, ⟨⟨a, cap, some ⟨w.heap.size, 0, none⟩, n, ?_, ?_, ?_, ?_⟩, HG.out⟩, hb1.trans (hba.mono hb1.size)⟩
    · rw [heap_alloc_new w1 _, HB4.out, ← HN.out]
      unfold start4
      rw [← HN.out, HV.out]
      simp [nb, List.replicate]
    · exact HP.out.below (hb1.trans (hba.mono hb1.size))
    · rw [HB4.out, ← HN.out]
      have := (rdW_zero (Rd.own hown)).below hba
      simpa [nb] using this
    · rw [HB4.out, ← HN.out]; simp [nb]
  · go_enter Try.func47, Try.ntmps47
    go_wp2_with (first | (at_make; refine wpList_make_full _ rfl _ _ 101 rfl w.heap.size 138 i0 (.slice none 0 0) 1 Try.underlying101 hi hz0 hz1 .i64 .i64 _ _ n rfl rfl rfl rfl (by rw [hz2]; omega) (by unfold maxLen; omega) (Nat.le_refl _) ?_; intro w1 hown hgrow) | (at_make; refine wpList_make_full _ rfl _ _ 101 rfl w.heap.size 138 i0 (.slice none 0 0) 1 Try.underlying101 hi hz0 hz1 .i64 .i64 _ _ (3 * n) rfl rfl (by omega) (by omega) (by rw [hz2]; omega) (by unfold maxLen; omega) (by simp; exact Nat.le_succ_of_le hgrow.size) ?_; intro w2 hown2 hgrow2; have hgb := (hgrow2.block w1.heap.size (by simp) (by simp)).trans (heap_alloc_new w1 _); have c17 : w2.cell? ⟨w1.heap.size, 17, none⟩ = some (.slice (some ⟨w.heap.size, 0, none⟩) n n) := (cell_of_row w2 w1.heap.size 17 _ _ _ hgb).trans rfl; have f17 := frozen_of_row w2 w1.heap.size 17 _ _ hgb))
    go_ret
    rw [HMK.out] at hown2
    have hb1 : Below w.heap.size w w1 := (Below.refl _ _).grown hgrow (Nat.le_refl _) (by simp)
    have hba := (Below.refl w1.heap.size w1).alloc (Nat.le_refl _) (.cells #[.slice a n cap, .int .u8 0, .int .u8 0, .int .u8 0, .int .u8 0, .int .u8 0, .int .u8 0, .int .u8 0, .int .u8 0, .int .u8 0, .int .u8 0, .int .u8 0, .int .u8 0, .int .u8 0, .int .u8 0, .int .u8 0, .bool true, .slice (some ⟨w.heap.size, 0, none⟩) n n] 103)
    have hb2 := (hb1.trans (hba.mono hb1.size)).grown hgrow2 (by simp; exact Nat.le_succ_of_le hb1.size) (by simp)
    have hs1 := hb1.size
    have hb3 := hb2.setCell (p := ⟨w1.heap.size, 17, none⟩) hs1 (.slice (some ⟨w1.heap.size + 1, 0, none⟩) (3 * n) (3 * n))
    simp only [World.size_alloc] at hown2
    have hown3 := own_keeps hown2 (Keeps.setCell w2 ⟨w1.heap.size, 17, none⟩ (.slice (some ⟨w1.heap.size + 1, 0, none⟩) (3 * n) (3 * n))) (fun b hb e => by simp [blk] at hb; simp at e; omega)
    have em : n * nb true = 3 * n := by simp [nb]; omega
    refine ⟨_, rfl, ⟨⟨a, cap, some ⟨w1.heap.size + 1, 0, none⟩, 3 * n, ?_, ?_, ?_, ?_⟩, HG.out⟩, ?_⟩
    · rw [heap_setCell_same w2 w1.heap.size 17 _ _ _ hgb, HB4.out, ← HN.out]
      unfold start4
      rw [← HN.out, HV.out, em]
      simp [List.replicate]
    · exact HP.out.below hb3
    · rw [HB4.out, ← HN.out, em]
      exact rdW_zero (Rd.own hown3)
    · rw [HB4.out, ← HN.out, em]; simp
    · exact hb3
end Go.Proofs.Ytbncmeggnhggkaa
namespace Go.Proofs.Ytbncmeggnhggkaa
open Go.RowKit
set_option linter.unusedVariables false
set_option linter.unusedSimpArgs false

theorem rowsW_set {rs : List (Option Addr × Nat)} {bf : List (List (Int × Int))} (hl : rs.length = bf.length) (i : Nat) (r : Option Addr × Nat) (ys : List (Int × Int)) : (rowsW rs bf).set i (.slice r.1 ys.length r.2) = rowsW (rs.set i r) (bf.set i ys) := by
  apply List.ext_getElem?
  intro j
  unfold rowsW
  rw [List.getElem?_set]
  by_cases hij : i = j
  · subst hij
    by_cases hi : i < bf.length
    · simp [hi, hl]
    · simp [hi, hl]
  · rw [if_neg hij]
    simp only [List.getElem?_zipWith, List.getElem?_set, if_neg hij]
theorem rdW_put {wk : World} {base C b n wc : Nat} {rs : List (Option Addr × Nat)} {bf : List (List (Int × Int))} {r' : Option Addr × Nat} {xs' : List (Int × Int)} (hb : b < bf.length) (hl : rs.length = bf.length) (ho : wk.ownsRow base 138 1 (.slice (some ⟨C, 0, none⟩) n wc) n (rowsW rs bf))
    (hold : ∀ (k : Nat) r xs, k ≠ b → rs[k]? = some r → bf[k]? = some xs → Rd (wk.setCell ⟨C, b, none⟩ (.slice r'.1 xs'.length r'.2)) r.1 (b8s (bytesB xs)) ∧ xs.length ≤ r.2)
    (hnew : Rd (wk.setCell ⟨C, b, none⟩ (.slice r'.1 xs'.length r'.2)) r'.1 (b8s (bytesB xs')) ∧ xs'.length ≤ r'.2) : RdW (wk.setCell ⟨C, b, none⟩ (.slice r'.1 xs'.length r'.2)) (some ⟨C, 0, none⟩) (bf.set b xs') := by
  have hst := (ho.stored b (.slice r'.1 xs'.length r'.2)).1
  rw [rowsW_set hl b r' xs'] at hst
  refine ⟨rs.set b r', by simp [hl], Rd.own hst, fun k r xs h1 h2 => ?_⟩
  by_cases hk : b = k
  · subst hk
    rw [List.getElem?_set_self (by omega)] at h1
    rw [List.getElem?_set_self hb] at h2
    cases h1
    cases h2
    exact hnew
  · rw [List.getElem?_set_ne hk] at h1
    rw [List.getElem?_set_ne hk] at h2
    exact hold k r xs (fun e => hk e.symm) h1 h2
theorem rowsW_one {rs : List (Option Addr × Nat)} {bf : List (List (Int × Int))} : ∀ u ∈ rowsW rs bf, u.oneCell' = true := by
  intro u hu
  obtain ⟨i, hi⟩ := List.mem_iff_getElem?.1 hu
  unfold rowsW at hi
  rw [List.getElem?_zipWith] at hi
  split at hi
  · cases hi; rfl
  · cases hi
theorem AfI.setex {w wk : World} {B : Nat} {a : Option Addr} {n cap : Nat} {T : TypeId} {sk : St} {x y z : Value} (h : AfI w B a n cap [x, y] T sk wk) : AfI w B a n cap [x, z] T sk (wk.setCell ⟨B, 17, none⟩ z) := by
  refine ⟨?_, h.len, h.below.setCell h.wb _, h.wb⟩
  have hl := length_valC (a := a) (n := n) (cap := cap) h.len
  rw [heap_setCell_same wk B 17 _ _ z h.cur]
  congr 2
  rw [List.setIfInBounds_toArray, List.set_append_right _ _ (by omega), hl]
  rfl
theorem AfI.cell17 {w wk : World} {B : Nat} {a : Option Addr} {n cap : Nat} {T : TypeId} {sk : St} {x y : Value} (h : AfI w B a n cap [x, y] T sk wk) : wk.cell? ⟨B, 17, none⟩ = some y := by
  have hl := length_valC (a := a) (n := n) (cap := cap) h.len
  rw [cell_of_row wk B 17 _ _ _ h.cur, List.getElem?_toArray, List.getElem?_append_right (by omega), hl]; rfl
theorem AfI.other {w wk : World} {B C j : Nat} {a : Option Addr} {n cap : Nat} {ex : List Value} {T : TypeId} {sk : St} {v : Value} (h : AfI w B a n cap ex T sk wk) (hne : B ≠ C) (hC : w.heap.size ≤ C) : AfI w B a n cap ex T sk (wk.setCell ⟨C, j, none⟩ v) :=
  ⟨heap_set h.cur hne, h.len, h.below.setCell hC _, h.wb⟩
abbrev z18 : Array Value := #[.slice none 0 0, .int .u8 0, .int .u8 0, .int .u8 0, .int .u8 0, .int .u8 0, .int .u8 0, .int .u8 0, .int .u8 0, .int .u8 0, .int .u8 0, .int .u8 0, .int .u8 0, .int .u8 0, .int .u8 0, .int .u8 0, .bool false, .slice none 0 0]

set_option maxRecDepth 100000 in
set_option maxHeartbeats 3200000 in
theorem bufAfterF_c (w : World) (g : Nat) (p : Prg) (split : Bool) (s : St) (b : Nat) (el ev : Int) (es : List (Int × Int)) (h : BAt w g p split s) (hv : Shape p) (hb : b < s.buf.length) (hrow : row4 s b = (el, ev) :: es) :
    Calls Try.prog 127 #[.pointer (some ⟨g, 0, none⟩), .int .i64 ((p.length + b : Nat) : Int)] w fun e w' => ∃ B, e = .returned (.iface 100 (.pointer (some ⟨B, 0, none⟩))) ∧ BAt w' B p split (flush4 p s b) ∧ Below w.heap.size w w' := by
  have hg4 : Good4 p split (flush4 p s b) := by
    have hc : can4 p s split (p.length + b) = true := by
      unfold can4
      rw [if_neg (by omega), Nat.add_sub_cancel_left, hrow]; rfl
    have := h.good.do4 hv (m := p.length + b) (by omega) hc
    unfold Proofs.Ytbncmeggnhggkaa.do4 at this
    rw [if_neg (by omega), Nat.add_sub_cancel_left] at this
    exact this
  have HG4 := hid hg4
  have hvl := h.good.toGood.vlen hv
  have hbl := h.good.blen hv
  have hr7 := h.good.rlen hv (row4_get hb)
  obtain ⟨hl, hvb⟩ := h.good.ent b _ (row4_get hb) (el, ev) (by rw [hrow]; exact List.mem_cons_self)
  obtain ⟨ln, rfl⟩ : ∃ ln : Nat, el = ln := ⟨el.toNat, by have := hl.1; simp only at this; omega⟩
  have hl2 : ln ≤ 2 := by have := hl.2; simp only at this; omega
  have hv0 : 0 ≤ ev := hvb.1
  have hv3 : ev ≤ 3 := hvb.2
  obtain ⟨⟨a, cap, wa, wc, hgh, hrp, ⟨rs, hrl, hrd, hri⟩, hwc⟩, hgd⟩ := h
  have hn3 := hv.len
  have HFL := hid (show flush4 p s b = { pc := s.pc, regs := s.regs, mem := s.mem.set ln ev, buf := s.buf.set b es } from by unfold flush4; rw [hrow]; rfl)
  obtain ⟨m3, hm3⟩ : ∃ m3, s.mem[ln]? = some m3 := ⟨_, List.getElem?_eq_getElem (by rw [hgd.meml]; omega)⟩
  obtain ⟨wb, wo, hwa, hwl, hcell⟩ := hrd.at b (by rw [length_rowsW hrl]; exact hb)
  subst hwa
  obtain ⟨r0, hr0⟩ : ∃ r0, rs[b]? = some r0 := ⟨_, List.getElem?_eq_getElem (by omega)⟩
  have hgetc := rowsW_get hr0 (row4_get hb)
  rw [List.getElem?_eq_getElem (by rw [length_rowsW hrl]; exact hb)] at hgetc
  simp only [Option.some.injEq] at hgetc
  rw [hgetc] at hcell
  obtain ⟨hrow0, hrc0⟩ := hri b r0 _ hr0 (row4_get hb)
  rw [hrow] at hcell hrow0 hrc0 hr7
  obtain ⟨r, rc⟩ := r0
  dsimp only at hcell hrow0 hrc0
  obtain ⟨rb, ro, hra, hrbl, hbyte⟩ : ∃ rb ro, r = some ⟨rb, ro, none⟩ ∧ rb < w.heap.size ∧ ∀ j u, (b8s (bytesB (((ln : Int), ev) :: es)))[j]? = some u → w.cell? ⟨rb, ro + j, none⟩ = some u := by
    rcases hrow0 with h | h
    · cases h
    · exact h
  subst hra
  obtain ⟨l, hll⟩ : ∃ l, l = es.length := ⟨_, rfl⟩
  rw [List.length_cons, ← hll] at hcell hrc0 hr7
  have HLL := hid hll
  obtain ⟨n, hn⟩ : ∃ n, n = p.length := ⟨_, rfl⟩
  have HN := hid hn
  obtain ⟨bl, hbn⟩ : ∃ bl, bl = s.buf.length := ⟨_, rfl⟩
  have HBN := hid hbn
  rw [← hn] at hgh hn3 ⊢
  rw [← hbn] at hgh hbl hwc
  have hbb : b < bl := by rw [hbn]; exact hb
  have HRP := hid hrp
  have HRD := hid hrd
  have HRI := hid hri
  have HRL := hid hrl
  have HR0 := hid hr0
  have HM3 := hid hm3
  have HB0 := hid (hbyte 0 _ rfl)
  have HBY := hid hbyte
  have HCE := hid (And.intro hwl hcell)
  have hgl : g < w.heap.size := (Array.getElem?_eq_some_iff.1 hgh).1
  have c0 : w.cell? ⟨g, 0, none⟩ = some (.slice a n cap) := by
    rw [cell_of_row w g 0 _ _ _ hgh]; rfl
  have c17 : w.cell? ⟨g, 17, none⟩ = some (.slice (some ⟨wb, wo, none⟩) bl wc) := by
    have e := length_valC (a := a) (n := n) (cap := cap) hvl
    rw [cell_of_row w g 17 _ _ _ hgh, List.getElem?_toArray, List.getElem?_append_right (by omega), e]; rfl
  have HC0 := hid c0
  have HC17 := hid c17
  obtain ⟨V, hV⟩ : ∃ V, V = (valC a n cap s ++ [Value.bool split, Value.slice (some ⟨wb, wo, none⟩) bl wc]).toArray := ⟨_, rfl⟩
  rw [← hV] at hgh
  have HG := hid hgh
  have HVV := hid hV
  have HONE := hid (show V.all (·.oneCell') = true from by
    rw [hV]
    simp [valC, Value.oneCell'])
  have e18 : V.size = 18 := by rw [hV, List.size_toArray, List.length_append, length_valC hvl]; rfl
  have HSZ := hid (show (Try.prog.info? 103).map (·.size) = some V.size from by rw [e18]; kernel_rfl)
  have HSZ18 := hid (show z18.size = V.size from by rw [e18]; rfl)
  have HCLO := hid (fun w h hl h1 => cloneW_c w ⟨wb, wo, none⟩ bl wc (rowsW rs s.buf) h hl h1 (by omega))
  have HVL := hid hvl
  clear hgh hrp hrd hri hrl hr0 hm3 hbyte hwl hcell c0 c17 hV e18 hrow hn hbn hll hg4 hgd hgetc hrow0 hv hl hvb hvl
  go_enter Try.func127, Try.ntmps127
  go_wp2_with (first | (refine wpList_load_row rfl 103 (.tmp 12) rfl g rfl 103 V (0, 0) _ HG.out Try.underlying103 rfl HSZ.out ?_) | (refine wpList_store_row rfl 103 (.tmp 5) (.tmp 13) rfl w.heap.size V rfl rfl 103 _ (heap_alloc_new w _) HSZ.out HSZ18.out HONE.out ?_; have c17w : ((w.alloc (.cells z18 103)).setRow w.heap.size V).cell? ⟨g, 17, none⟩ = some (.slice (some ⟨wb, wo, none⟩) bl wc) := ((Proofs.Ytbncmeggnhggkaa.Below.keeps ((Below.refl w.heap.size w).alloc (Nat.le_refl _) (.cells z18 103)) (keeps_setRow _ w.heap.size V) (by simp) (fun k e => by omega)).cell (p := ⟨g, 17, none⟩) hgl).trans HC17.out))
  have D1 : AfI w w.heap.size a n cap [.bool split, .slice (some ⟨wb, wo, none⟩) bl wc] 103 s ((w.alloc (.cells z18 103)).setRow w.heap.size V) := by
    refine ⟨?_, HVL.out, ?_, Nat.le_refl _⟩
    · rw [setRow_heap _ _ _ V _ _ (heap_alloc_new w _), HVV.out]
    · exact Proofs.Ytbncmeggnhggkaa.Below.keeps ((Below.refl w.heap.size w).alloc (Nat.le_refl _) (.cells z18 103)) (keeps_setRow _ w.heap.size V) (by simp) (fun k e => by omega)
  obtain ⟨w1, hw1⟩ : ∃ w1, w1 = (w.alloc (.cells z18 103)).setRow w.heap.size V := ⟨_, rfl⟩
  rw [← hw1] at D1 ⊢
  have HD1 := hid D1
  clear D1 hw1
  refine (HCLO.out w1 (HRD.out.below HD1.out.below) (by rw [length_rowsW HRL.out, ← HBN.out]) rowsW_one).mono ?_
  rintro e w2 ⟨a2, c2, rfl, hown2, hb2⟩
  obtain ⟨C, rfl, hC1, hC2⟩ := own_some hown2 (by omega)
  have HD2 := hid (HD1.out.later hb2)
  have x17 := HD2.out.cell17
  have f17 := HD2.out.free 17
  have hlt1 := HD1.out.lt
  have HD3 := hid (HD2.out.setex (z := .slice (some ⟨C, 0, none⟩) bl c2))
  have hown3 := own_keeps hown2 (Keeps.setCell w2 ⟨w.heap.size, 17, none⟩ (.slice (some ⟨C, 0, none⟩) bl c2)) (fun k hk e => by simp [blk] at hk; simp at e; omega)
  have HO3 := hid (own_base hown3 (by have := HD1.out.below.size; omega : w.heap.size ≤ w1.heap.size))
  have hcap := hid (own_cap hown3)
  obtain ⟨w3, hw3⟩ : ∃ w3, w3 = w2.setCell ⟨w.heap.size, 17, none⟩ (.slice (some ⟨C, 0, none⟩) bl c2) := ⟨_, rfl⟩
  rw [← hw3] at HD3 HO3
  have hB3 := HD3.out.below
  have y0 := (hB3.cell (p := ⟨g, 0, none⟩) hgl).trans HC0.out
  have y17 := (hB3.cell (p := ⟨g, 17, none⟩) hgl).trans HC17.out
  have yr := (hB3.cell (p := ⟨wb, wo + b, none⟩) HCE.out.1).trans HCE.out.2
  have yb := (hB3.cell (p := ⟨rb, ro, none⟩) hrbl).trans HB0.out
  rw [hw3] at y0 y17 yr yb
  have e1 : (n : Int) + (b : Int) - (n : Int) = (b : Int) := by omega
  have e2 : (n : Int) ≤ (n : Int) + (b : Int) := by omega
  have hb1 : (b : Int) < (bl : Int) := by omega
  have hl1 : (0 : Int) < (l : Int) + 1 := by omega
  clear hown2 hown3 hB3 hb2
  have zc := HO3.out.cellAt b (by omega)
  rw [rowsW_get HR0.out (row4_get hb)] at zc
  have zf := HO3.out.frozenAt b
  have z17 := HD3.out.cell17
  have v17 := (HD3.out.below.cell (p := ⟨g, 17, none⟩) hgl).trans HC17.out
  have vr := (HD3.out.below.cell (p := ⟨wb, wo + b, none⟩) HCE.out.1).trans HCE.out.2
  have e3 : ((ln : Int) * 16 + ev) / 16 = (ln : Int) := by omega
  have e4 : ((ln : Int) * 16 + ev) % 16 = ev := by omega
  have hrc1 : (1 : Int) ≤ (rc : Int) := by omega
  have hln3 : (ln : Int) < 3 := by omega
  have HRN := hid (show Rd w (some ⟨rb, ro + 1, none⟩) (b8s (bytesB es)) from .inr ⟨rb, ro + 1, rfl, hrbl, fun j u hj => by
    have := HBY.out (j + 1) u (by simpa [bytesB] using hj)
    rw [show ro + 1 + j = ro + (j + 1) by omega]; exact this⟩)
  by_cases hc2 : rc = 1
  · have hl0 : l = 0 := by omega
    have HES := hid (show es = [] from List.eq_nil_of_length_eq_zero (by rw [← HLL.out]; exact hl0))
    subst hl0
    subst hc2
    go_wp2_with fail
    rw [← hw3]
    clear hw3
    refine wp_region_mix (by kernel_rfl) (by kernel_rfl) ?_
    repeat (with_reducible refine wpMix_rd rfl rfl (fun K hK => ?_); go_simp; (try go_bits); refine hK _ ?_; clear hK K)
    (with_reducible refine wpMix_act (o := ⟨_, .store _ _ _, _, _, _, _⟩) rfl rfl (fun K hK => ?_))
    go_simp
    refine hK _ _ ?_
    clear hK K
    have st4 := (HO3.out.stored b (.slice (some ⟨rb, ro, none⟩) (0) (0))).1
    have hset := rowsW_set HRL.out b (some ⟨rb, ro, none⟩, 0) es
    rw [← HLL.out] at hset
    dsimp only at hset
    rw [hset] at st4
    have HD4 := hid (AfI.drew (HD3.out.other (C := C) (j := b) (v := .slice (some ⟨rb, ro, none⟩) (0) (0)) (by omega) (by omega)))
    obtain ⟨w4, hw4⟩ : ∃ w4, w4 = (w3.setCell ⟨C, b, none⟩ (.slice (some ⟨rb, ro, none⟩) (0) (0))).drew := ⟨_, rfl⟩
    have HO4 := hid (show w4.ownsRow w.heap.size 138 1 (.slice (some ⟨C, 0, none⟩) bl c2) bl (rowsW (rs.set b (some ⟨rb, ro, none⟩, 0)) (s.buf.set b es)) from by rw [hw4]; exact st4)
    rw [← hw4] at HD4 ⊢
    clear hw4 st4 hset zc zf z17 v17 vr
    (with_reducible refine wpMix_nil ?_)
    have m4 := HD4.out.cell (valC_mem HD4.out.len HM3.out)
    have g4 := HD4.out.free (13 + ln)
    have HD5 := hid (HD4.out.setmem (l := ln) (by omega) ev)
    have HO5 := hid (own_keeps HO4.out (Keeps.setCell w4 ⟨w.heap.size, 13 + ln, none⟩ (.int .u8 ev)) (fun k hk e => by simp [blk] at hk; simp at e; omega))
    go_wp2
    go_ret
    refine ⟨w.heap.size, rfl, ⟨⟨a, cap, some ⟨C, 0, none⟩, c2, ?_, HRP.out.below HD5.out.below, ?_, ?_⟩, HG4.out⟩, HD5.out.below⟩
    · rw [HFL.out, ← HN.out]
      dsimp only
      rw [List.length_set, ← HBN.out]
      exact HD5.out.cur
    · rw [HFL.out]
      refine ⟨rs.set b (some ⟨rb, ro, none⟩, 0), by simp [HRL.out], Rd.own HO5.out, fun k r xs h1 h2 => ?_⟩
      by_cases hk : b = k
      · subst hk
        rw [List.getElem?_set_self (by rw [HRL.out]; exact hb)] at h1
        rw [List.getElem?_set_self hb] at h2
        cases h1
        cases h2
        exact ⟨Rd.below (w := w) (.inl (by rw [HES.out]; rfl)) HD5.out.below, by rw [← HLL.out]; dsimp only; omega⟩
      · rw [List.getElem?_set_ne hk] at h1
        rw [List.getElem?_set_ne hk] at h2
        exact ⟨(HRI.out k r xs h1 h2).1.below HD5.out.below, (HRI.out k r xs h1 h2).2⟩
    · rw [HFL.out]
      dsimp only
      rw [List.length_set, ← HBN.out]
      exact hcap.out
  · have hc3 : (1 : Int) < (rc : Int) := by omega
    have hs1 : (1 : Int) ≤ (l : Int) + 1 := by omega
    have hs2 : (l : Int) + 1 ≤ (rc : Int) := by omega
    go_wp2_with fail
    rw [← hw3]
    clear hw3
    refine wp_region_mix (by kernel_rfl) (by kernel_rfl) ?_
    repeat (with_reducible refine wpMix_rd rfl rfl (fun K hK => ?_); go_simp; (try go_bits); refine hK _ ?_; clear hK K)
    (with_reducible refine wpMix_act (o := ⟨_, .store _ _ _, _, _, _, _⟩) rfl rfl (fun K hK => ?_))
    go_simp
    refine hK _ _ ?_
    clear hK K
    have st4 := (HO3.out.stored b (.slice (some ⟨rb, ro + 1, none⟩) (l) (rc - 1))).1
    have hset := rowsW_set HRL.out b (some ⟨rb, ro + 1, none⟩, rc - 1) es
    rw [← HLL.out] at hset
    dsimp only at hset
    rw [hset] at st4
    have HD4 := hid (AfI.drew (HD3.out.other (C := C) (j := b) (v := .slice (some ⟨rb, ro + 1, none⟩) (l) (rc - 1)) (by omega) (by omega)))
    obtain ⟨w4, hw4⟩ : ∃ w4, w4 = (w3.setCell ⟨C, b, none⟩ (.slice (some ⟨rb, ro + 1, none⟩) (l) (rc - 1))).drew := ⟨_, rfl⟩
    have HO4 := hid (show w4.ownsRow w.heap.size 138 1 (.slice (some ⟨C, 0, none⟩) bl c2) bl (rowsW (rs.set b (some ⟨rb, ro + 1, none⟩, rc - 1)) (s.buf.set b es)) from by rw [hw4]; exact st4)
    rw [← hw4] at HD4 ⊢
    clear hw4 st4 hset zc zf z17 v17 vr
    (with_reducible refine wpMix_nil ?_)
    have m4 := HD4.out.cell (valC_mem HD4.out.len HM3.out)
    have g4 := HD4.out.free (13 + ln)
    have HD5 := hid (HD4.out.setmem (l := ln) (by omega) ev)
    have HO5 := hid (own_keeps HO4.out (Keeps.setCell w4 ⟨w.heap.size, 13 + ln, none⟩ (.int .u8 ev)) (fun k hk e => by simp [blk] at hk; simp at e; omega))
    go_wp2
    go_ret
    refine ⟨w.heap.size, rfl, ⟨⟨a, cap, some ⟨C, 0, none⟩, c2, ?_, HRP.out.below HD5.out.below, ?_, ?_⟩, HG4.out⟩, HD5.out.below⟩
    · rw [HFL.out, ← HN.out]
      dsimp only
      rw [List.length_set, ← HBN.out]
      exact HD5.out.cur
    · rw [HFL.out]
      refine ⟨rs.set b (some ⟨rb, ro + 1, none⟩, rc - 1), by simp [HRL.out], Rd.own HO5.out, fun k r xs h1 h2 => ?_⟩
      by_cases hk : b = k
      · subst hk
        rw [List.getElem?_set_self (by rw [HRL.out]; exact hb)] at h1
        rw [List.getElem?_set_self hb] at h2
        cases h1
        cases h2
        exact ⟨Rd.below (w := w) HRN.out HD5.out.below, by rw [← HLL.out]; dsimp only; omega⟩
      · rw [List.getElem?_set_ne hk] at h1
        rw [List.getElem?_set_ne hk] at h2
        exact ⟨(HRI.out k r xs h1 h2).1.below HD5.out.below, (HRI.out k r xs h1 h2).2⟩
    · rw [HFL.out]
      dsimp only
      rw [List.length_set, ← HBN.out]
      exact hcap.out
end Go.Proofs.Ytbncmeggnhggkaa
