/-
  PROVED HERE: what spec.l4Find does: it gives the first moves from a state with store buffers to an outcome. CONDITIONS: as each theorem states.
-/
import Derived.Test.YtbncmeggnhggkaaFnd
import Derived.Test.YtbncmeggnhggkaaBsm
import Derived.Test.YtbncmeggnhggkaaSqg
namespace Go.Proofs.Ytbncmeggnhggkaa
open Go.RowKit
set_option linter.unusedVariables false
set_option linter.unusedSimpArgs false

theorem flatB_len : ∀ r : List (Int × Int), (flatB r).length = 2 * r.length
  | [] => rfl
  | e :: r => by
    have := flatB_len r
    have h : flatB (e :: r) = e.1 :: e.2 :: flatB r := by simp [flatB]
    rw [h]
    simp only [List.length_cons]
    omega
theorem R4.smallS {p : Prg} {split : Bool} {s : St} (h : R4 p split s) (hv : Shape p) : SmallS s := by
  have w8 : ∀ x : Int, 0 ≤ x → x < 256 → IntKind.u8.wrap x = x := by
    have key : ∀ n < 256, IntKind.u8.wrap (n : Nat) = (n : Int) := by decide +kernel
    intro x h0 h1
    have := key x.toNat (by omega)
    rw [Int.toNat_of_nonneg h0] at this
    exact this
  have hsm := h.small hv
  unfold Proofs.Ytbncmeggnhggkaa.keyB at hsm
  have hbl := h.toGood4.blen hv
  have hkr : ∀ (b : List (List (Int × Int))), (∀ r ∈ b, r.length ≤ 7) → (keyR b).length ≤ 15 * b.length := by
    intro b
    induction b with
    | nil => intro _; exact Nat.le_refl _
    | cons r b ih =>
      intro hr
      have h1 := ih fun r' h' => hr r' (List.mem_cons_of_mem _ h')
      have h2 := hr r List.mem_cons_self
      have h3 := flatB_len r
      have h4 : keyR (r :: b) = 255 :: (flatB r ++ keyR b) := by unfold keyR; simp
      rw [h4, List.length_cons, List.length_append, List.length_cons]
      omega
  have hk := hkr s.buf fun r hr => by
    obtain ⟨i, hi⟩ := List.mem_iff_getElem?.1 hr
    exact h.toGood4.rlen hv hi
  have hn := hv.len
  refine ⟨fun x hx => ?_, fun x hx => ?_, fun x hx => ?_, fun k x hx => ?_, ?_, ?_, ?_⟩
  · have := hsm x (by simp [hx]); have := h.toGood.pc7 hv x hx; exact w8 x (by omega) (by omega)
  · have := h.regb x hx; exact w8 x (by omega) (by omega)
  · have := h.memb x hx; exact w8 x (by omega) (by omega)
  · by_cases hk : k < s.buf.length
    · have hx' : x ∈ keyR s.buf := by
        unfold keyR
        exact List.mem_flatMap.2 ⟨row4 s k, List.mem_of_getElem? (row4_get hk), List.mem_cons_of_mem _ hx⟩
      have := hsm x (List.mem_append.2 (.inr hx'))
      exact w8 x (by omega) (by omega)
    · unfold row4 at hx
      rw [List.getD_eq_getElem?_getD, List.getElem?_eq_none (by omega)] at hx
      cases hx
  · rw [h.pcl, h.regl, h.meml]; omega
  · rw [h.meml]; decide
  · omega
theorem R4.size {p : Prg} {split : Bool} {s : St} (h : R4 p split s) (hv : Shape p) : (keyS s).size ≤ 1000000 := by
  unfold keyS
  rw [strOfNums_size]
  have := (h.smallS hv).len
  unfold Proofs.Ytbncmeggnhggkaa.keyB
  simp only [List.length_append]
  omega
/-- The table beside all that lay there before the search. -/
structure FiW4 (w0 w : World) (p : Prg) (split : Bool) (g : Nat) (S : Nat → Prop) (tb : List (List ByteArray)) : Prop where
  below : Below w0.heap.size w0 w
  tab : Tab w g S tb
  ok : TabOk (R4 p split) tb
  hS : ∀ b, S b → w0.heap.size ≤ b ∧ b < w.heap.size
theorem FiW4.step {w0 w w' : World} {p : Prg} {split : Bool} {g : Nat} {S : Nat → Prop} {tb : List (List ByteArray)} (h : FiW4 w0 w p split g S tb) (hb : Below w.heap.size w w') : FiW4 w0 w' p split g S tb :=
  ⟨h.below.trans (hb.mono h.below.size), h.tab.below hb, h.ok, fun b hb' => ⟨(h.hS b hb').1, Nat.lt_of_lt_of_le (h.hS b hb').2 hb.size⟩⟩
theorem FiW4.change {w0 w w' : World} {p : Prg} {split : Bool} {g : Nat} {S S' : Nat → Prop} {tb tb' : List (List ByteArray)} (h : FiW4 w0 w p split g S tb) (ht : Tab w' g S' tb') (hk : Keeps S w w') (hs : ∀ b, S' b → S b ∨ (w.heap.size ≤ b ∧ b < w'.heap.size)) (ho : TabOk (R4 p split) tb') : FiW4 w0 w' p split g S' tb' :=
  ⟨Proofs.Ytbncmeggnhggkaa.Below.keeps h.below hk h.below.size (fun b hb => (h.hS b hb).1), ht, ho, fun b hb => by
    have h1 := h.below.size
    have h2 := hk.size
    rcases hs b hb with h3 | h3
    · exact ⟨(h.hS b h3).1, Nat.lt_of_lt_of_le (h.hS b h3).2 h2⟩
    · exact ⟨by omega, h3.2⟩⟩
/-- What the search leaves: the first way, if there is one; the table as it has grown. -/
def FindPost4 (w0 w : World) (p : Prg) (split : Bool) (o : List Int) (g : Nat) (S : Nat → Prop) (tb : List (List ByteArray)) (n : Nat) (s : St) (e : Ending) (w' : World) : Prop :=
  ∃ (π : List Int) (B : Bool) (ar : Option Addr) (cr : Nat) (S' : Nat → Prop) (tb' : List (List ByteArray)), e = .returned (.tuple #[.slice ar π.length cr, .bool B]) ∧ ((bestM p split o s = some π ∧ B = true) ∨ (bestM p split o s = none ∧ B = false ∧ π = [])) ∧ w'.ownsRow w.heap.size 3 1 (.slice ar π.length cr) π.length (ints π) ∧ FiW4 w0 w' p split g S' tb' ∧ Keeps S w w' ∧
    (∀ b, S' b → S b ∨ (w.heap.size ≤ b ∧ b < w'.heap.size)) ∧ (B = false → Grow4 p split tb tb' n ∧ Sound4 p split o tb' n)
def FindC4 (w0 : World) (a : Option Addr) (cap : Nat) (p : Prg) (split : Bool) (ao : Option Addr) (co : Nat) (o : List Int) (n : Nat) : Prop :=
  ∀ (w : World) (g : Nat) (S : Nat → Prop) (tb : List (List ByteArray)) (q : Sp) (s : St), left4 p s = n → R4 p split s → FiW4 w0 w p split g S tb → StA w S q s → Sound4 p split o tb n →
    Calls Try.prog 58 #[.slice a p.length cap, q.v s, .bool split, .slice ao o.length co, .slice (some ⟨g, 0, none⟩) 4096 4096] w (FindPost4 w0 w p split o g S tb n s)
/-- The loop of the search: k threads have been tried without success. -/
structure FiL4 (w0 w wr : World) (p : Prg) (split : Bool) (o : List Int) (g : Nat) (S Sr : Nat → Prop) (tb tbr : List (List ByteArray)) (n : Nat) (q : Sp) (s : St) (H k : Nat) : Prop where
  fi : FiW4 w0 wr p split g Sr tbr
  st : StA wr Sr q s
  bx : BoxA wr Sr H (q.cs s)
  kp : Keeps S w wr
  gs : ∀ b, Sr b → S b ∨ (w.heap.size ≤ b ∧ b < wr.heap.size)
  gr : Grow4 p split tb tbr n
  sd : Sound4 p split o tbr n
  no : ∀ t, t < k → can4 p s split t = true → bestM p split o (do4 p s split t) = none
theorem FiL4.step {w0 w wr w' : World} {p : Prg} {split : Bool} {o : List Int} {g : Nat} {S Sr : Nat → Prop} {tb tbr : List (List ByteArray)} {n : Nat} {q : Sp} {s : St} {H k : Nat} (h : FiL4 w0 w wr p split o g S Sr tb tbr n q s H k) (hb : Below wr.heap.size wr w') : FiL4 w0 w w' p split o g S Sr tb tbr n q s H k :=
  ⟨h.fi.step hb, h.st.below hb, h.bx.below hb, h.kp.trans (Keeps.of_below hb), fun b hb' => (h.gs b hb').imp id fun ⟨h1, h2⟩ => ⟨h1, Nat.lt_of_lt_of_le h2 hb.size⟩, h.gr, h.sd, h.no⟩
theorem FiL4.next {w0 w wr : World} {p : Prg} {split : Bool} {o : List Int} {g : Nat} {S Sr : Nat → Prop} {tb tbr : List (List ByteArray)} {n : Nat} {q : Sp} {s : St} {H k : Nat} (h : FiL4 w0 w wr p split o g S Sr tb tbr n q s H k) (hk : can4 p s split k = true → bestM p split o (do4 p s split k) = none) : FiL4 w0 w wr p split o g S Sr tb tbr n q s H (k + 1) :=
  ⟨h.fi, h.st, h.bx, h.kp, h.gs, h.gr, h.sd, fun t ht hg => by
    by_cases e : t = k
    · subst e; exact hk hg
    · exact h.no t (by omega) hg⟩
theorem FiL4.out {w0 w wr w' : World} {p : Prg} {split : Bool} {o : List Int} {g : Nat} {S Sr S' : Nat → Prop} {tb tbr : List (List ByteArray)} {n : Nat} {q : Sp} {s : St} {H k : Nat} (h : FiL4 w0 w wr p split o g S Sr tb tbr n q s H k) (hk : Keeps Sr wr w') (hs : ∀ b, S' b → Sr b ∨ (wr.heap.size ≤ b ∧ b < w'.heap.size)) : Keeps S w w' ∧ ∀ b, S' b → S b ∨ (w.heap.size ≤ b ∧ b < w'.heap.size) := keeps_comp h.kp h.gs hk hs
/-- The table turns, within its own blocks and new ones. -/
theorem FiL4.turn {w0 w wr w' : World} {p : Prg} {split : Bool} {o : List Int} {g : Nat} {S Sr S' : Nat → Prop} {tb tbr tb' : List (List ByteArray)} {n : Nat} {q : Sp} {s : St} {H k : Nat} (h : FiL4 w0 w wr p split o g S Sr tb tbr n q s H k) (hf : FiW4 w0 w' p split g S' tb') (hk : Keeps Sr wr w') (hs : ∀ b, S' b → Sr b ∨ (wr.heap.size ≤ b ∧ b < w'.heap.size)) (hg : Grow4 p split tb tb' n) (hd : Sound4 p split o tb' n) : FiL4 w0 w w' p split o g S S' tb tb' n q s H k := by
  have h1 := h.kp.size
  have h2 := hk.size
  refine ⟨hf, h.st.chg hk hs, h.bx.change hk hs, ?_, fun b hb => ?_, hg, hd, h.no⟩
  · exact ⟨hk.os.trans h.kp.os, hk.tape.trans h.kp.tape, hk.output.trans h.kp.output, Nat.le_trans h1 h2, fun b hb hn => (hk.block b (Nat.lt_of_lt_of_le hb h1) fun e => by
      rcases h.gs b e with h3 | h3
      · exact hn h3
      · omega).trans (h.kp.block b hb hn)⟩
  · rcases hs b hb with h3 | h3
    · rcases h.gs b h3 with h4 | h4
      · exact .inl h4
      · exact .inr ⟨h4.1, by omega⟩
    · exact .inr ⟨by omega, h3.2⟩
set_option maxRecDepth 100000 in
set_option maxHeartbeats 3200000 in
theorem l4Find_c (w0 : World) (a : Option Addr) (cap : Nat) (p : Prg) (split : Bool) (ao : Option Addr) (co : Nat) (o : List Int) (hp : RdP w0 a p) (ho : Rd w0 ao (ints o)) (hv : progValid p = true) (hol : o.length = p.length * 3 + 3) : ∀ n, FindC4 w0 a cap p split ao co o n := by
  intro n
  induction n using Nat.strongRecOn with
  | ind n ih =>
  intro w g S tb q s hn hg hF hA hsd
  have hsh := (valid_of hv).toShape
  have HDN := hid (fun w q s hp h hg => l4Done_c w a cap p q s split hp h hsh hg)
  have HOUT := hid (fun w q s (h : RdS w q s) (hg : Good p s) => l3Outcome_c w q s h (by have := (good_small hg hsh).2.1; omega) (by have := (good_small hg hsh).2.2; omega))
  have HLS := hid (fun w a a' c c' xs ys h h' hl hl' => l3Less_c w a a' c c' xs ys h h' hl hl')
  have HDO := hid (fun w q s t hp h (hg : R4 p split s) ht hgo => l4Do_c w a cap p q s split t hp h hsh hg.toGood4 ht hgo)
  have HCAN := hid (fun w q s (t : Nat) hp h (hg : R4 p split s) => l4Can_c w a cap p q s split t hp h hsh hg.toGood4)
  have HKEY := hid (fun w q s h (hg : R4 p split s) => l3Key_c w q s h (hg.smallS hsh))
  have HFO := hid (fun w g S tb s (h : Tab w g S tb) (ok : TabOk (R4 p split) tb) (hg : R4 p split s) => l3Found_c w g S tb (keyS s) h ok.len (hg.size hsh) (ok.row_le4 hsh _))
  have HMK := hid (fun w g S tb s (h : Tab w g S tb) (ok : TabOk (R4 p split) tb) (hg : R4 p split s) => l3Mark_c w g S tb (keyS s) h ok.len (hg.size hsh) (ok.row_le4 hsh _))
  unfold FindC4 at ih
  have HIH := hid ih
  have HRP := hid (fun w (h : Below w0.heap.size w0 w) => hp.below h)
  have HRO := hid (fun w (h : Below w0.heap.size w0 w) => ho.below h)
  have HG := hid hg
  have HSH := hid hsh
  have HOL := hid (show (out3 s).length = o.length by rw [out3_length hg.toGood, hol])
  have hol9 : o.length ≤ 12 := by have := hsh.len; omega
  have HEND := hid (fun (h : done4 p s = true) => bestM_done (split := split) (o := o) h)
  have HNO := hid (fun (hd : done4 p s = false) h => bestM_none hsh (o := o) hg.toGood4 hd h)
  have HYES := hid (fun (hd : done4 p s = false) k hk hgo h π hb => bestM_some hsh (o := o) hg.toGood4 hd (k := k) hk hgo h (π := π) hb)
  have hn3 : p.length ≤ 3 := hsh.len
  obtain ⟨np, hnp⟩ : ∃ np, np = p.length := ⟨_, rfl⟩
  have HN := hid hnp
  obtain ⟨no, hno⟩ : ∃ no, no = o.length := ⟨_, rfl⟩
  have HNO2 := hid hno
  have HLN := hid hn
  have HS := hid hsd
  obtain ⟨e0, f0, e1, f1, e2, f2, e3, f3⟩ := q
  have HB9 := hid (hg.toGood4.blen hsh)
  obtain ⟨nn, hnn⟩ : ∃ nn, nn = p.length + s.buf.length := ⟨_, rfl⟩
  have HNN := hid hnn
  rw [← hnn] at HNO HYES
  rw [← hnp] at HDN HDO HCAN HIH hn3 ⊢
  rw [← hno] at HIH HOL hol9 ⊢
  clear hnp hnn hno hp ho hv hol hsh hg ih hn hsd
  unfold Sp.v at HDN HOUT HDO HCAN HKEY HIH ⊢
  dsimp only at HIH ⊢
  go_enter Try.func58, Try.ntmps58
  go_wp2_with fail
  have hb1 : Below w.heap.size w (w.alloc (.cells #[.slice e0 s.pc.length f0, .slice e1 s.regs.length f1, .slice e2 s.mem.length f2, .slice e3 s.buf.length f3] 44)) := (Below.refl _ _).alloc (Nat.le_refl _) _
  have hst1 : (w.alloc (.cells #[.slice e0 s.pc.length f0, .slice e1 s.regs.length f1, .slice e2 s.mem.length f2, .slice e3 s.buf.length f3] 44)).heap[w.heap.size]? = some (.cells #[.slice e0 s.pc.length f0, .slice e1 s.regs.length f1, .slice e2 s.mem.length f2, .slice e3 s.buf.length f3] 44 (0, 0)) := heap_alloc_new w _
  obtain ⟨w1, hw1⟩ : ∃ w1, w1 = w.alloc (.cells #[.slice e0 s.pc.length f0, .slice e1 s.regs.length f1, .slice e2 s.mem.length f2, .slice e3 s.buf.length f3] 44) := ⟨_, rfl⟩
  rw [← hw1] at hb1 hst1 ⊢
  have HL1 := hid (show FiL4 w0 w w1 p split o g S S tb tb n ⟨e0, f0, e1, f1, e2, f2, e3, f3⟩ s w.heap.size 0 from
    ⟨hF.step hb1, hA.below hb1, ⟨hst1, fun e => by have := (hF.hS _ e).2; omega⟩, Keeps.of_below hb1, fun b hb => .inl hb, Grow4.refl _ _ _ _, HS.out, fun t ht => absurd ht (Nat.not_lt_zero _)⟩)
  obtain ⟨x0, x1, x2, x3⟩ := HL1.out.bx.cells
  clear hw1 hst1 hb1 hF hA
  have HD := hid (HDN.out w1 ⟨e0, f0, e1, f1, e2, f2, e3, f3⟩ s (HRP.out _ HL1.out.fi.below) HL1.out.st.rd HG.out.toGood4)
  obtain ⟨D, hD⟩ : ∃ D, D = done4 p s := ⟨_, rfl⟩
  rw [← hD] at HD HEND HNO HYES
  clear hD
  go_wp2_with fail
  refine HD.out.mono ?_
  rintro e w2 ⟨rfl, hb2⟩
  have HL2 := hid (HL1.out.step hb2)
  clear hb2 HD x0 x1 x2 x3 HL1
  obtain ⟨x0, x1, x2, x3⟩ := HL2.out.bx.cells
  cases D
  · go_wp2_with fail
    clear x0 x1 x2 x3
    go_loopw [12, 13, 14, 15, 16, 55] (fun i _ _ _ _ _ wr => ∃ (k : Nat) (Sr : Nat → Prop) (tbr : List (List ByteArray)), k ≤ nn ∧ i = .int .i64 k ∧ Hid (FiL4 w0 w wr p split o g S Sr tb tbr n ⟨e0, f0, e1, f1, e2, f2, e3, f3⟩ s w.heap.size k)) (fun i _ _ _ _ _ _ => nn - (intOf i).toNat)
    case atStart => exact ⟨0, S, tb, Nat.zero_le _, rfl, HL2⟩
    case round =>
      clear HL2
      obtain ⟨k, Sr, tbr, hk, rfl, HL⟩ := hrel
      obtain ⟨x0, x1, x2, x3⟩ := HL.out.bx.cells
      by_cases hlt : k < nn
      · have hb9 := HB9.out
        have hsz : (np : Int) + (s.buf.length : Int) = (nn : Int) := by have := HNN.out; have := HN.out; omega
        have hlt' : (k : Int) < nn := by omega
        have hsum9 : nn ≤ 1000 := by have := HNN.out; have := HN.out; omega
        have HC := hid (HCAN.out wr ⟨e0, f0, e1, f1, e2, f2, e3, f3⟩ s k (HRP.out _ HL.out.fi.below) HL.out.st.rd HG.out)
        have HGO0 := hid (show decide ((k : Int) ∈ moves4 p s split) = can4 p s split k from by
          by_cases hc : can4 p s split k = true
          · rw [hc]; exact decide_eq_true ((mem_moves4 _).2 ⟨k, rfl, by rw [← HNN.out]; exact hlt, hc⟩)
          · have hc' : can4 p s split k = false := by simpa using hc
            rw [hc']
            refine decide_eq_false fun hm => ?_
            obtain ⟨k', e1, _, e2⟩ := (mem_moves4 _).1 hm
            have : k = k' := by omega
            subst this
            exact hc e2)
        rw [HGO0.out] at HC
        clear HGO0
        by_cases hgo : can4 p s split k = true
        · have HGO := hid hgo
          rw [hgo] at HC
          clear hgo
          go_wp2_with fail
          refine HC.out.mono ?_
          rintro e w3 ⟨rfl, hb3⟩
          have HL3 := hid (HL.out.step hb3)
          obtain ⟨x0, x1, x2, x3⟩ := HL3.out.bx.cells
          clear hb3 HL HC
          go_wp2_with fail
          refine (HDO.out _ ⟨e0, f0, e1, f1, e2, f2, e3, f3⟩ s k (HRP.out _ HL3.out.fi.below) HL3.out.st.rd HG.out (by rw [HN.out, ← HNN.out]; exact hlt) HGO.out).mono ?_
          rintro e w4 ⟨q', rfl, hfr, hb4⟩
          have HSR := hid (fun b hb => (HL3.out.fi.hS b hb).2)
          have HL4 := hid (HL3.out.step hb4)
          have HA4 := hid (hfr.sta HSR.out)
          have hlft : left4 p (do4 p s split k) < left4 p s := by have := left_step HG.out.toGood4 HSH.out (by rw [← HNN.out]; exact hlt) HGO.out; omega
          rw [HLN.out] at hlft
          have HG4 := hid (HG.out.step HSH.out (by rw [← HNN.out]; exact hlt) HGO.out)
          clear hfr hb4 x0 x1 x2 x3 HL3
          obtain ⟨s', hs'⟩ : ∃ s', s' = do4 p s split k := ⟨_, rfl⟩
          rw [← hs'] at HA4 HG4 hlft ⊢
          have HSE := hid hs'
          clear hs'
          obtain ⟨g0, i0, g1, i1, g2, i2, g3, i3⟩ := q'
          dsimp only
          have hb5 : Below w4.heap.size w4 (w4.alloc (.cells #[.slice g0 s'.pc.length i0, .slice g1 s'.regs.length i1, .slice g2 s'.mem.length i2, .slice g3 s'.buf.length i3] 44)) := (Below.refl _ _).alloc (Nat.le_refl _) _
          have hst5 : (w4.alloc (.cells #[.slice g0 s'.pc.length i0, .slice g1 s'.regs.length i1, .slice g2 s'.mem.length i2, .slice g3 s'.buf.length i3] 44)).heap[w4.heap.size]? = some (.cells #[.slice g0 s'.pc.length i0, .slice g1 s'.regs.length i1, .slice g2 s'.mem.length i2, .slice g3 s'.buf.length i3] 44 (0, 0)) := heap_alloc_new w4 _
          obtain ⟨w5, hw5⟩ : ∃ w5, w5 = w4.alloc (.cells #[.slice g0 s'.pc.length i0, .slice g1 s'.regs.length i1, .slice g2 s'.mem.length i2, .slice g3 s'.buf.length i3] 44) := ⟨_, rfl⟩
          rw [← hw5] at hb5 hst5
          have HL5 := hid (HL4.out.step hb5)
          have HA5 := hid (HA4.out.below hb5)
          have HX5 := hid (show BoxA w5 Sr w4.heap.size #[.slice g0 s'.pc.length i0, .slice g1 s'.regs.length i1, .slice g2 s'.mem.length i2, .slice g3 s'.buf.length i3] from ⟨hst5, fun e => by have := (HL4.out.fi.hS _ e).2; omega⟩)
          go_wp2_with fail
          rw [← hw5]
          clear hw5 hst5 hb5 HL4 HA4
          obtain ⟨H5, hH5⟩ : ∃ H5, H5 = w4.heap.size := ⟨_, rfl⟩
          rw [← hH5] at HX5 ⊢
          clear hH5
          refine (HKEY.out _ ⟨g0, i0, g1, i1, g2, i2, g3, i3⟩ s' HA5.out.rd HG4.out).mono ?_
          rintro e w6 ⟨rfl, hb6⟩
          have HL6 := hid (HL5.out.step hb6)
          have HA6 := hid (HA5.out.below hb6)
          have HX6 := hid (HX5.out.below hb6)
          clear hb6 HL5 HA5 HX5
          rw [show strOfNums (keyB s') = keyS s' from rfl]
          have HFD := hid (HFO.out w6 g Sr tbr s' HL6.out.fi.tab HL6.out.fi.ok HG4.out)
          have HMD := hid (HMK.out w6 g Sr tbr s' HL6.out.fi.tab HL6.out.fi.ok HG4.out)
          obtain ⟨F, hF⟩ : ∃ F, F = foundT tbr (keyS s') := ⟨_, rfl⟩
          rw [← hF] at HFD
          have HF := hid hF.symm
          clear hF
          go_wp2_with fail
          refine HFD.out.mono ?_
          rintro e w7 ⟨rfl, rfl⟩
          cases F
          · go_wp2_with fail
            refine HMD.out.mono ?_
            rintro e w8 ⟨rfl, S8, ht8, hk8, hs8⟩
            have HF8 := hid (HL6.out.fi.change ht8 hk8 hs8 (HL6.out.fi.ok.mark HG4.out HF.out))
            have HA8 := hid (HA6.out.chg hk8 hs8)
            have HX8 := hid (HX6.out.change hk8 hs8)
            have HKS := hid (And.intro hk8 hs8)
            have HR8 := hid (HIH.out (left4 p s') hlft w8 g S8 (markT tbr (keyS s')) ⟨g0, i0, g1, i1, g2, i2, g3, i3⟩ s' rfl HG4.out HF8.out HA8.out (HL6.out.sd.sub HSH.out HL6.out.fi.ok.len HG4.out (by rw [← HLN.out] at hlft ⊢; exact hlft)))
            obtain ⟨x0, x1, x2, x3⟩ := HX8.out.cells
            clear ht8 hk8 hs8
            go_wp2_with fail
            refine HR8.out.mono ?_
            rintro e w9 ⟨π, B, ar, cr, S9, tb9, rfl, hres, hrw9, hF9, hk9, hs9, hgs9⟩
            have HKC := hid (keeps_comp HKS.out.1 HKS.out.2 hk9 hs9)
            have HF9 := hid hF9
            have HRD9 := hid (Rd.own hrw9)
            have HRES := hid hres
            have HGS := hid hgs9
            clear hres hrw9 hF9 hk9 hs9 hgs9 x0 x1 x2 x3
            cases B
            · have hb : bestM p split o s' = none := by
                rcases HRES.out with ⟨_, h⟩ | ⟨h, _⟩
                · cases h
                · exact h
              obtain ⟨hg9, hd9⟩ := HGS.out rfl
              have HL9 := hid ((HL6.out.turn HF9.out HKC.out.1 HKC.out.2 (HL6.out.gr.back HL6.out.fi.ok.len HG4.out hlft hg9) (HL6.out.sd.back HSH.out HL6.out.fi.ok.len HG4.out hlft hb hg9 hd9)).next fun _ => by rw [← HSE.out]; exact hb)
              clear hb hg9 hd9
              go_wp2_with fail
              go_roundw
              case rel => exact ⟨k + 1, S9, tb9, by omega, by go_num, HL9⟩
              case measure => simp [intOf]; omega
            · have hb : bestM p split o s' = some π := by
                rcases HRES.out with ⟨h, _⟩ | ⟨_, h, _⟩
                · exact h
                · cases h
              have HE := hid (HYES.out (by first | rfl | trivial) k hlt HGO.out HL6.out.no π (by rw [← HSE.out]; exact hb))
              have HPI := hid (best4_len HSH.out o _ _ _ HG4.out.toGood4 hb)
              have hpi9 : π.length ≤ 1000 := Nat.le_trans HPI.out (left4_le4 HG4.out.toGood4 HSH.out)
              obtain ⟨m, hm⟩ : ∃ m, m = π.length := ⟨_, rfl⟩
              have HM := hid hm
              rw [← hm] at hpi9 ⊢
              have HLIT := hid (own_one w9 w9.heap.size (.int .i64 (k : Int)) 3 (Nat.le_refl _))
              have hba : Below w9.heap.size w9 (w9.alloc (.cells #[.int .i64 (k : Int)] 3)) := (Below.refl _ _).alloc (Nat.le_refl _) _
              have HRA := hid (HRD9.out.below hba)
              have HBA := hid hba
              clear hb hm hba
              go_wp2_with (at_builtin; refine wpList_append_rd rfl (.tmp 66) (.tmp 67) 23 rfl w9.heap.size 3 (.int .i64 0) 1 8 Try.underlying23 Try.info_int rfl (by decide) _ _ _ rfl HLIT.out ar m cr (ints π) rfl HRA.out (by simp [HM.out]) (ints_one _ _) (by omega) (by decide) (by simp) ?_)
              intro v10 w10 hown10 hgrow10 _
              have HB10 := hid (HBA.out.grown hgrow10 (by simp) (fun b hb => by rw [ownBlock_slice] at hb; have := (own_blk HLIT.out b hb).1; exact this))
              obtain ⟨a10, c10, rfl, _⟩ := own_shape hown10
              have HOW10 := hid hown10
              have HM1 := hid (show ((k : Int) :: π).length = 1 + m by rw [List.length_cons, HM.out]; omega)
              clear hown10 hgrow10
              go_wp2_with fail
              go_ret2
              have HX := HF9.out.step HB10.out
              obtain ⟨hkS, hsS⟩ := HL6.out.out HKC.out.1 HKC.out.2
              exact ⟨(k : Int) :: π, true, a10, c10, S9, tb9, (by rw [HM1.out]; rfl), .inl ⟨HE.out, rfl⟩, own_base (by rw [HM1.out]; exact own_cast HOW10.out rfl (by simp)) (Nat.le_trans HL6.out.kp.size HKC.out.1.size), HX, hkS.trans (Keeps.of_below HB10.out), fun b hb => (hsS b hb).imp id fun ⟨h1, h2⟩ => ⟨h1, Nat.lt_of_lt_of_le h2 HB10.out.size⟩, fun e => by cases e⟩
          · have HNB := hid (HL6.out.sd s' HG4.out hlft HF.out)
            have HL7 := hid (HL6.out.next fun _ => by rw [← HSE.out]; exact HNB.out)
            go_wp2_with fail
            go_roundw
            case rel => exact ⟨k + 1, Sr, tbr, by omega, by go_num, HL7⟩
            case measure => simp [intOf]; omega
        · have hgo : can4 p s split k = false := by simpa using hgo
          have HGO := hid hgo
          rw [hgo] at HC
          clear hgo
          have HLX := hid (HL.out.next fun h => by rw [HGO.out] at h; cases h)
          go_wp2_with fail
          refine HC.out.mono ?_
          rintro e w3 ⟨rfl, hb3⟩
          have HB3 := hid hb3
          clear hb3
          go_wp2_with fail
          go_roundw
          case rel => exact ⟨k + 1, Sr, tbr, by omega, by go_num, hid (HLX.out.step HB3.out)⟩
          case measure => simp [intOf]; omega
      · have hb9 := HB9.out
        have hsz : (np : Int) + (s.buf.length : Int) = (nn : Int) := by have := HNN.out; have := HN.out; omega
        have hlt' : ¬ ((k : Int) < nn) := by omega
        have hsum9 : nn ≤ 1000 := by have := HNN.out; have := HN.out; omega
        have HE := hid (HNO.out (by first | rfl | trivial) (fun t ht => HL.out.no t (by omega)))
        go_wp2_with fail
        go_ret2
        have hb := (Below.refl wr.heap.size wr).alloc (Nat.le_refl _) (.cells #[] 3)
        have HX := HL.out.step hb
        exact ⟨[], false, _, _, Sr, tbr, rfl, .inr ⟨HE.out, rfl, rfl⟩, own_lit0 wr w.heap.size 3 1 HL.out.kp.size, HX.fi, HX.kp, HX.gs, fun _ => ⟨HX.gr, HX.sd⟩⟩
  · have hba := (Below.refl w2.heap.size w2).alloc (Nat.le_refl _) (.cells #[] 3)
    have HL3 := hid (HL2.out.step hba)
    have HLI := hid (own_lit0 w2 w.heap.size 3 1 HL2.out.kp.size)
    obtain ⟨y0, y1, y2, y3⟩ := HL3.out.bx.cells
    clear hba
    go_wp2_with fail
    refine (HOUT.out _ ⟨e0, f0, e1, f1, e2, f2, e3, f3⟩ s HL3.out.st.rd HG.out.toGood).mono ?_
    rintro e w4 ⟨ao4, co4, rfl, hown4, hb4⟩
    have HL4 := hid (HL3.out.step hb4)
    have HLI4 := hid (own_below HLI.out hb4)
    have HO4 := hid (Rd.own hown4)
    have HW4 := hid (HLS.out w4 ao4 ao co4 co (out3 s) o HO4.out (HRO.out _ HL4.out.fi.below) (by rw [HOL.out]; omega) (by rw [← HNO2.out]; omega))
    have HSAME := hid (less_same (out3 s) o (by rw [HOL.out, HNO2.out]))
    rw [HOL.out, ← HNO2.out] at HW4
    obtain ⟨z, hz⟩ : ∃ z, z = lessTo (out3 s) o := ⟨_, rfl⟩
    rw [← hz] at HW4 HSAME
    clear hown4 hb4 hz x0 x1 x2 x3 y0 y1 y2 y3
    go_wp2_with fail
    rw [HOL.out]
    refine HW4.out.mono ?_
    rintro e w5 ⟨rfl, hb5⟩
    have HL5 := hid (HL4.out.step hb5)
    have HLI5 := hid (own_below HLI4.out hb5)
    clear hb5
    by_cases hz0 : z = 0
    · have c0 : (z == 0) = true := by simpa using hz0
      have HE := hid (show bestM p split o s = some [] by rw [HEND.out (by first | rfl | trivial), if_pos (HSAME.out.1 hz0)])
      go_wp2_with fail
      go_ret2
      exact ⟨[], true, _, _, S, tb, rfl, .inl ⟨HE.out, rfl⟩, HLI5.out, HL5.out.fi, HL5.out.kp, HL5.out.gs, fun e => by cases e⟩
    · have c0 : (z == 0) = false := by simpa using hz0
      have HE := hid (show bestM p split o s = none by rw [HEND.out (by first | rfl | trivial), if_neg (fun e => hz0 (HSAME.out.2 e))])
      go_wp2_with fail
      go_ret2
      exact ⟨[], false, _, _, S, tb, rfl, .inr ⟨HE.out, rfl, rfl⟩, HLI5.out, HL5.out.fi, HL5.out.kp, HL5.out.gs, fun _ => ⟨HL5.out.gr, HL5.out.sd⟩⟩
end Go.Proofs.Ytbncmeggnhggkaa
