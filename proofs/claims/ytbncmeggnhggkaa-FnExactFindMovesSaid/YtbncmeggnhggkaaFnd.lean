/-
  PROVED HERE: what spec.l3Find does: it gives the first way from a state to an outcome. CONDITIONS: as each theorem states.
-/
import Derived.Test.YtbncmeggnhggkaaBst
namespace Go.Proofs.Ytbncmeggnhggkaa
open Go.RowKit
set_option linter.unusedVariables false
set_option linter.unusedSimpArgs false

theorem own_one (w : World) (base : Nat) (x : Value) (e : TypeId) (h : base ≤ w.heap.size) : (w.alloc (.cells #[x] e)).ownsRow base e 1 (.slice (some ⟨w.heap.size, 0, none⟩) 1 1) 1 [x] :=
  ⟨rfl, .inr ⟨w.heap.size, 1, #[x], rfl, h, heap_alloc_new w _, Nat.le_refl _, by decide, rfl, rfl⟩⟩
theorem G3.smallS {p : Prg} {s : St} (h : G3 p s) (hv : Shape p) : SmallS s := by
  have w8 : ∀ x : Int, 0 ≤ x → x < 256 → IntKind.u8.wrap x = x := by
    have key : ∀ n < 256, IntKind.u8.wrap (n : Nat) = (n : Int) := by decide +kernel
    intro x h0 h1
    have := key x.toNat (by omega)
    rw [Int.toNat_of_nonneg h0] at this
    exact this
  have h3 := hv.len
  refine ⟨fun x hx => ?_, fun x hx => ?_, fun x hx => ?_, fun k x hx => ?_, ?_, ?_, ?_⟩
  · have := h.toGood.pc7 hv x hx; exact w8 x (by omega) (by omega)
  · have := h.regb x hx; exact w8 x (by omega) (by omega)
  · have := h.memb x hx; exact w8 x (by omega) (by omega)
  · unfold row4 at hx
    rw [h.nobuf] at hx
    cases hx
  · rw [h.pcl, h.regl, h.meml, h.nobuf]
    simp [keyR]
    omega
  · rw [h.meml]; decide
  · rw [h.nobuf]; simp
theorem G3.sm {p : Prg} {s : St} (h : G3 p s) : Small s := ⟨by rw [h.nobuf]; simp, by rw [h.nobuf]; intro xs hx; cases hx⟩
theorem G3.size {p : Prg} {s : St} (h : G3 p s) (hv : Shape p) : (keyS s).size ≤ 1000000 := by
  unfold keyS
  rw [strOfNums_size, h.keyB]
  have := hv.len
  simp only [List.length_append, h.pcl, h.regl, h.meml]
  omega
/-- The table beside all that lay there before the search. -/
structure FiW (w0 w : World) (p : Prg) (g : Nat) (S : Nat → Prop) (tb : List (List ByteArray)) : Prop where
  below : Below w0.heap.size w0 w
  tab : Tab w g S tb
  ok : TabOk (G3 p) tb
  hS : ∀ b, S b → w0.heap.size ≤ b ∧ b < w.heap.size
theorem FiW.step {w0 w w' : World} {p : Prg} {g : Nat} {S : Nat → Prop} {tb : List (List ByteArray)} (h : FiW w0 w p g S tb) (hb : Below w.heap.size w w') : FiW w0 w' p g S tb :=
  ⟨h.below.trans (hb.mono h.below.size), h.tab.below hb, h.ok, fun b hb' => ⟨(h.hS b hb').1, Nat.lt_of_lt_of_le (h.hS b hb').2 hb.size⟩⟩
theorem FiW.change {w0 w w' : World} {p : Prg} {g : Nat} {S S' : Nat → Prop} {tb tb' : List (List ByteArray)} (h : FiW w0 w p g S tb) (ht : Tab w' g S' tb') (hk : Keeps S w w') (hs : ∀ b, S' b → S b ∨ (w.heap.size ≤ b ∧ b < w'.heap.size)) (ho : TabOk (G3 p) tb') : FiW w0 w' p g S' tb' :=
  ⟨Proofs.Ytbncmeggnhggkaa.Below.keeps h.below hk h.below.size (fun b hb => (h.hS b hb).1), ht, ho, fun b hb => by
    have h1 := h.below.size
    have h2 := hk.size
    rcases hs b hb with h3 | h3
    · exact ⟨(h.hS b h3).1, Nat.lt_of_lt_of_le (h.hS b h3).2 h2⟩
    · exact ⟨by omega, h3.2⟩⟩
/-- A box beside the table. -/
def BoxA (w : World) (S : Nat → Prop) (H : Nat) (cs : Array Value) : Prop := w.heap[H]? = some (.cells cs 44 (0, 0)) ∧ ¬ S H
theorem BoxA.lt {w : World} {S : Nat → Prop} {H : Nat} {cs : Array Value} (h : BoxA w S H cs) : H < w.heap.size := (Array.getElem?_eq_some_iff.1 h.1).1
theorem BoxA.below {w w' : World} {S : Nat → Prop} {H : Nat} {cs : Array Value} (h : BoxA w S H cs) (hb : Below w.heap.size w w') : BoxA w' S H cs := ⟨(hb.block _ h.lt).trans h.1, h.2⟩
theorem BoxA.change {w w' : World} {S S' : Nat → Prop} {H : Nat} {cs : Array Value} {u : Nat} (h : BoxA w S H cs) (hk : Keeps S w w') (hs : ∀ b, S' b → S b ∨ (w.heap.size ≤ b ∧ b < u)) : BoxA w' S' H cs := by
  refine ⟨(hk.block _ h.lt h.2).trans h.1, fun e => ?_⟩
  rcases hs H e with h1 | h1
  · exact h.2 h1
  · have := h.lt; omega
theorem BoxA.cells {w : World} {S : Nat → Prop} {H : Nat} {a b c d : Value} (h : BoxA w S H #[a, b, c, d]) : w.cell? ⟨H, 0, none⟩ = some a ∧ w.cell? ⟨H, 1, none⟩ = some b ∧ w.cell? ⟨H, 2, none⟩ = some c ∧ w.cell? ⟨H, 3, none⟩ = some d := by
  have e := fun (i : Nat) => cell_of_row w H i _ _ _ h.1
  exact ⟨e 0, e 1, e 2, e 3⟩
theorem StA.chg {w w' : World} {S S' : Nat → Prop} {q : Sp} {s : St} {u : Nat} (h : StA w S q s) (hk : Keeps S w w') (hS : ∀ b, S' b → S b ∨ (w.heap.size ≤ b ∧ b < u)) : StA w' S' q s := h.change hk fun b hb => (hS b hb).imp id (·.1)
/-- What the search leaves: the first way, if there is one; the table as it has grown. -/
def FindPost (w0 w : World) (p : Prg) (o : List Int) (g : Nat) (S : Nat → Prop) (tb : List (List ByteArray)) (n : Nat) (s : St) (e : Ending) (w' : World) : Prop :=
  ∃ (π : List Int) (B : Bool) (ar : Option Addr) (cr : Nat) (S' : Nat → Prop) (tb' : List (List ByteArray)), e = .returned (.tuple #[.slice ar π.length cr, .bool B]) ∧ ((bestS p o s = some π ∧ B = true) ∨ (bestS p o s = none ∧ B = false ∧ π = [])) ∧ w'.ownsRow w.heap.size 3 1 (.slice ar π.length cr) π.length (ints π) ∧ FiW w0 w' p g S' tb' ∧ Keeps S w w' ∧
    (∀ b, S' b → S b ∨ (w.heap.size ≤ b ∧ b < w'.heap.size)) ∧ (B = false → Grow p tb tb' n ∧ Sound p o tb' n)
def FindC (w0 : World) (a : Option Addr) (cap : Nat) (p : Prg) (ao : Option Addr) (co : Nat) (o : List Int) (n : Nat) : Prop :=
  ∀ (w : World) (g : Nat) (S : Nat → Prop) (tb : List (List ByteArray)) (q : Sp) (s : St), left4 p s = n → G3 p s → FiW w0 w p g S tb → StA w S q s → Sound p o tb n →
    Calls Try.prog 55 #[.slice a p.length cap, q.v s, .slice ao o.length co, .slice (some ⟨g, 0, none⟩) 4096 4096] w (FindPost w0 w p o g S tb n s)
/-- The loop of the search: k threads have been tried without success. -/
structure FiL (w0 w wr : World) (p : Prg) (o : List Int) (g : Nat) (S Sr : Nat → Prop) (tb tbr : List (List ByteArray)) (n : Nat) (q : Sp) (s : St) (H k : Nat) : Prop where
  fi : FiW w0 wr p g Sr tbr
  st : StA wr Sr q s
  bx : BoxA wr Sr H (q.cs s)
  kp : Keeps S w wr
  gs : ∀ b, Sr b → S b ∨ (w.heap.size ≤ b ∧ b < wr.heap.size)
  gr : Grow p tb tbr n
  sd : Sound p o tbr n
  no : ∀ t, t < k → goes p s t = true → bestS p o (do3 p s t) = none
theorem FiL.step {w0 w wr w' : World} {p : Prg} {o : List Int} {g : Nat} {S Sr : Nat → Prop} {tb tbr : List (List ByteArray)} {n : Nat} {q : Sp} {s : St} {H k : Nat} (h : FiL w0 w wr p o g S Sr tb tbr n q s H k) (hb : Below wr.heap.size wr w') : FiL w0 w w' p o g S Sr tb tbr n q s H k :=
  ⟨h.fi.step hb, h.st.below hb, h.bx.below hb, h.kp.trans (Keeps.of_below hb), fun b hb' => (h.gs b hb').imp id fun ⟨h1, h2⟩ => ⟨h1, Nat.lt_of_lt_of_le h2 hb.size⟩, h.gr, h.sd, h.no⟩
theorem FiL.next {w0 w wr : World} {p : Prg} {o : List Int} {g : Nat} {S Sr : Nat → Prop} {tb tbr : List (List ByteArray)} {n : Nat} {q : Sp} {s : St} {H k : Nat} (h : FiL w0 w wr p o g S Sr tb tbr n q s H k) (hk : goes p s k = true → bestS p o (do3 p s k) = none) : FiL w0 w wr p o g S Sr tb tbr n q s H (k + 1) :=
  ⟨h.fi, h.st, h.bx, h.kp, h.gs, h.gr, h.sd, fun t ht hg => by
    by_cases e : t = k
    · subst e; exact hk hg
    · exact h.no t (by omega) hg⟩
theorem keeps_comp {a b c : World} {S S8 S9 : Nat → Prop} (h1 : Keeps S a b) (h2 : ∀ x, S8 x → S x ∨ (a.heap.size ≤ x ∧ x < b.heap.size)) (h3 : Keeps S8 b c) (h4 : ∀ x, S9 x → S8 x ∨ (b.heap.size ≤ x ∧ x < c.heap.size)) : Keeps S a c ∧ ∀ x, S9 x → S x ∨ (a.heap.size ≤ x ∧ x < c.heap.size) := by
  have z1 := h1.size
  have z3 := h3.size
  refine ⟨⟨h3.os.trans h1.os, h3.tape.trans h1.tape, h3.output.trans h1.output, Nat.le_trans z1 z3, fun x hx hn => (h3.block x (Nat.lt_of_lt_of_le hx z1) fun e => ?_).trans (h1.block x hx hn)⟩, fun x hx => ?_⟩
  · rcases h2 x e with h | h
    · exact hn h
    · omega
  · rcases h4 x hx with h | h
    · rcases h2 x h with h5 | h5
      · exact .inl h5
      · exact .inr ⟨h5.1, by omega⟩
    · exact .inr ⟨by omega, h.2⟩
theorem FiL.out {w0 w wr w' : World} {p : Prg} {o : List Int} {g : Nat} {S Sr S' : Nat → Prop} {tb tbr : List (List ByteArray)} {n : Nat} {q : Sp} {s : St} {H k : Nat} (h : FiL w0 w wr p o g S Sr tb tbr n q s H k) (hk : Keeps Sr wr w') (hs : ∀ b, S' b → Sr b ∨ (wr.heap.size ≤ b ∧ b < w'.heap.size)) : Keeps S w w' ∧ ∀ b, S' b → S b ∨ (w.heap.size ≤ b ∧ b < w'.heap.size) := keeps_comp h.kp h.gs hk hs
theorem cost_le (xs : List Ins) : (xs.map cost4).sum ≤ 2 * xs.length := by
  induction xs with
  | nil => exact Nat.le_refl _
  | cons x xs ih =>
    simp only [List.map_cons, List.sum_cons, List.length_cons]
    have : cost4 x ≤ 2 := by unfold cost4; split <;> omega
    omega
theorem left4_le {p : Prg} {s : St} (h : G3 p s) (hv : Shape p) : left4 p s ≤ 1000 := by
  unfold left4
  rw [h.nobuf]
  have key : ∀ n, n ≤ 3 → ((List.range n).map (leftT p s.pc)).sum ≤ 14 * n := by
    intro n
    induction n with
    | zero => intro _; exact Nat.le_refl _
    | succ n ih =>
      intro hn
      have h1 := ih (by omega)
      rw [List.range_succ, List.map_append, List.sum_append]
      have h2 : leftT p s.pc n ≤ 14 := by
        unfold leftT
        refine Nat.le_trans (cost_le _) ?_
        rw [List.length_drop]
        have : (p.getD n []).length ≤ 7 := by
          rw [List.getD_eq_getElem?_getD]
          cases hx : p[n]? with
          | none => simp
          | some xs => exact hv.row n xs hx
        omega
      simp only [List.map_cons, List.map_nil, List.sum_cons, List.sum_nil]
      omega
  have := key p.length hv.len
  have := hv.len
  simp
  omega
/-- The table turns, within its own blocks and new ones. -/
theorem FiL.turn {w0 w wr w' : World} {p : Prg} {o : List Int} {g : Nat} {S Sr S' : Nat → Prop} {tb tbr tb' : List (List ByteArray)} {n : Nat} {q : Sp} {s : St} {H k : Nat} (h : FiL w0 w wr p o g S Sr tb tbr n q s H k) (hf : FiW w0 w' p g S' tb') (hk : Keeps Sr wr w') (hs : ∀ b, S' b → Sr b ∨ (wr.heap.size ≤ b ∧ b < w'.heap.size)) (hg : Grow p tb tb' n) (hd : Sound p o tb' n) : FiL w0 w w' p o g S S' tb tb' n q s H k := by
  have h1 := h.kp.size
  have h2 := hk.size
  refine ⟨hf, h.st.chg hk hs, h.bx.change hk hs, ?_, fun b hb => ?_, hg, hd, h.no⟩
  · exact ⟨hk.os.trans h.kp.os, hk.tape.trans h.kp.tape, hk.output.trans h.kp.output, Nat.le_trans h1 h2, fun b hb hn => (hk.block b (Nat.lt_of_lt_of_le hb h1) fun e => by
      rcases h.gs b e with h3 | h3
      · exact hn h3
      · omega).trans (h.kp.block b hb hn)⟩
  · rcases hs b hb with h3 | h3
    · rcases h.gs b h3 with h4 | h4
      · exact .inl h4
      · exact .inr ⟨h4.1, by omega⟩
    · exact .inr ⟨by omega, h3.2⟩
theorem out3_length {p : Prg} {s : St} (h : Good p s) : (out3 s).length = p.length * 3 + 3 := by
  unfold out3
  rw [List.length_append, h.regl, h.meml]
theorem bestS_none {p : Prg} (hv : Shape p) {o : List Int} {s : St} (hg : Good p s) (hd : done3 p s = false) (h : ∀ t, t < p.length → goes p s t = true → bestS p o (do3 p s t) = none) : bestS p o s = none := by
  rw [bestS_step hv hg hd]
  refine first_none fun t ht => ?_
  split
  · rename_i hgo
    rw [h t ht hgo]
    rfl
  · rfl
theorem bestS_some {p : Prg} (hv : Shape p) {o : List Int} {s : St} (hg : Good p s) (hd : done3 p s = false) {k : Nat} (hk : k < p.length) (hgo : goes p s k = true) (h : ∀ t, t < k → goes p s t = true → bestS p o (do3 p s t) = none) {π : List Int} (hb : bestS p o (do3 p s k) = some π) : bestS p o s = some ((k : Int) :: π) := by
  rw [bestS_step hv hg hd]
  refine first_some (k := k) (fun t ht => ?_) ?_ _ hk
  · split
    · rename_i hgo
      rw [h t ht hgo]
      rfl
    · rfl
  · rw [if_pos hgo, hb]
    rfl
set_option maxRecDepth 100000 in
set_option maxHeartbeats 3200000 in
theorem l3Find_c (w0 : World) (a : Option Addr) (cap : Nat) (p : Prg) (ao : Option Addr) (co : Nat) (o : List Int) (hp : RdP w0 a p) (ho : Rd w0 ao (ints o)) (hv : progValid p = true) (hol : o.length = p.length * 3 + 3) : ∀ n, FindC w0 a cap p ao co o n := by
  intro n
  induction n using Nat.strongRecOn with
  | ind n ih =>
  intro w g S tb q s hn hg hF hA hsd
  have hsh := (valid_of hv).toShape
  have HDN := hid (fun w q s hp h hg => l3Done_c w a cap p q s hp h hsh hg)
  have HOUT := hid (fun w q s (h : RdS w q s) (hg : Good p s) => l3Outcome_c w q s h (by have := (good_small hg hsh).2.1; omega) (by have := (good_small hg hsh).2.2; omega))
  have HLS := hid (fun w a a' c c' xs ys h h' hl hl' => l3Less_c w a a' c c' xs ys h h' hl hl')
  have HDO := hid (fun w q s t hp h (hg : G3 p s) hgo => l3Do_c w a cap p q s t hp h hsh hg.toGood hg.sm hgo)
  have HKEY := hid (fun w q s h (hg : G3 p s) => l3Key_c w q s h (hg.smallS hsh))
  have HFO := hid (fun w g S tb s (h : Tab w g S tb) (ok : TabOk (G3 p) tb) (hg : G3 p s) => l3Found_c w g S tb (keyS s) h ok.len (hg.size hsh) (ok.row_le hsh _))
  have HMK := hid (fun w g S tb s (h : Tab w g S tb) (ok : TabOk (G3 p) tb) (hg : G3 p s) => l3Mark_c w g S tb (keyS s) h ok.len (hg.size hsh) (ok.row_le hsh _))
  unfold FindC at ih
  have HIH := hid ih
  have HRP := hid (fun w (h : Below w0.heap.size w0 w) => hp.below h)
  have HRO := hid (fun w (h : Below w0.heap.size w0 w) => ho.below h)
  have HG := hid hg
  have HSH := hid hsh
  have HOL := hid (show (out3 s).length = o.length by rw [out3_length hg.toGood, hol])
  have hol9 : o.length ≤ 12 := by have := hsh.len; omega
  have HEND := hid (fun (h : done3 p s = true) => bestS_done (o := o) h)
  have HNO := hid (fun (hd : done3 p s = false) h => bestS_none hsh (o := o) hg.toGood hd h)
  have HYES := hid (fun (hd : done3 p s = false) k hk hgo h π hb => bestS_some hsh (o := o) hg.toGood hd (k := k) hk hgo h (π := π) hb)
  have hn3 : p.length ≤ 3 := hsh.len
  obtain ⟨np, hnp⟩ : ∃ np, np = p.length := ⟨_, rfl⟩
  have HN := hid hnp
  obtain ⟨no, hno⟩ : ∃ no, no = o.length := ⟨_, rfl⟩
  have HNO2 := hid hno
  have HLN := hid hn
  have HS := hid hsd
  obtain ⟨e0, f0, e1, f1, e2, f2, e3, f3⟩ := q
  rw [← hnp] at HDN HDO HIH HNO HYES hn3 ⊢
  rw [← hno] at HIH HOL hol9 ⊢
  clear hnp hno hp ho hv hol hsh hg ih hn hsd
  unfold Sp.v at HDN HOUT HDO HKEY HIH ⊢
  dsimp only at HIH ⊢
  go_enter Try.func55, Try.ntmps55
  go_wp2_with fail
  have hb1 : Below w.heap.size w (w.alloc (.cells #[.slice e0 s.pc.length f0, .slice e1 s.regs.length f1, .slice e2 s.mem.length f2, .slice e3 s.buf.length f3] 44)) := (Below.refl _ _).alloc (Nat.le_refl _) _
  have hst1 : (w.alloc (.cells #[.slice e0 s.pc.length f0, .slice e1 s.regs.length f1, .slice e2 s.mem.length f2, .slice e3 s.buf.length f3] 44)).heap[w.heap.size]? = some (.cells #[.slice e0 s.pc.length f0, .slice e1 s.regs.length f1, .slice e2 s.mem.length f2, .slice e3 s.buf.length f3] 44 (0, 0)) := heap_alloc_new w _
  obtain ⟨w1, hw1⟩ : ∃ w1, w1 = w.alloc (.cells #[.slice e0 s.pc.length f0, .slice e1 s.regs.length f1, .slice e2 s.mem.length f2, .slice e3 s.buf.length f3] 44) := ⟨_, rfl⟩
  rw [← hw1] at hb1 hst1 ⊢
  have HL1 := hid (show FiL w0 w w1 p o g S S tb tb n ⟨e0, f0, e1, f1, e2, f2, e3, f3⟩ s w.heap.size 0 from
    ⟨hF.step hb1, hA.below hb1, ⟨hst1, fun e => by have := (hF.hS _ e).2; omega⟩, Keeps.of_below hb1, fun b hb => .inl hb, Grow.refl _ _ _, HS.out, fun t ht => absurd ht (Nat.not_lt_zero _)⟩)
  obtain ⟨x0, x1, x2, x3⟩ := HL1.out.bx.cells
  clear hw1 hst1 hb1 hF hA
  have HD := hid (HDN.out w1 ⟨e0, f0, e1, f1, e2, f2, e3, f3⟩ s (HRP.out _ HL1.out.fi.below) HL1.out.st.rd HG.out.toGood)
  obtain ⟨D, hD⟩ : ∃ D, D = done3 p s := ⟨_, rfl⟩
  rw [← hD] at HD HEND HNO HYES
  clear hD
  go_wp2_with fail
  refine HD.out.mono ?_
  rintro e w2 ⟨rfl, hb2⟩
  have HL2 := hid (HL1.out.step hb2)
  clear hb2 HD x0 x1 x2 x3 HL1
  obtain ⟨x0, x1, x2, x3⟩ := HL2.out.bx.cells
  cases D
  · go_wp2_with fail
    clear x0 x1 x2 x3
    go_loopw [10, 11, 12, 13, 14, 53] (fun i _ _ _ _ _ wr => ∃ (k : Nat) (Sr : Nat → Prop) (tbr : List (List ByteArray)), k ≤ np ∧ i = .int .i64 k ∧ Hid (FiL w0 w wr p o g S Sr tb tbr n ⟨e0, f0, e1, f1, e2, f2, e3, f3⟩ s w.heap.size k)) (fun i _ _ _ _ _ _ => np - (intOf i).toNat)
    case atStart => exact ⟨0, S, tb, Nat.zero_le _, rfl, HL2⟩
    case round =>
      clear HL2
      obtain ⟨k, Sr, tbr, hk, rfl, HL⟩ := hrel
      obtain ⟨x0, x1, x2, x3⟩ := HL.out.bx.cells
      by_cases hlt : k < np
      · obtain ⟨xs, hxs⟩ : ∃ xs, p[k]? = some xs := ⟨_, List.getElem?_eq_getElem (by rw [← HN.out]; exact hlt)⟩
        obtain ⟨kk, hkk, hkl⟩ := HG.out.pcb k xs hxs
        have HGO := hid (goes_of hxs hkk)
        obtain ⟨pb, po, r, rc, xs', hpa, hplt, hpx, hpc, _, _⟩ := (HRP.out _ HL.out.fi.below).at' k (by rw [← HN.out]; exact hlt)
        rw [hxs] at hpx
        cases hpx
        subst hpa
        obtain ⟨qb, qo, hqa, hqb, hqc⟩ := HL.out.st.rd.pc.int k (by rw [HG.out.pcl, ← HN.out]; exact hlt)
        have hqa : e0 = some ⟨qb, qo, none⟩ := hqa
        subst hqa
        have hpl : s.pc.length = np := by rw [HG.out.pcl, HN.out]
        have HPL := hid hpl
        rw [show s.pc[k]'(by rw [HG.out.pcl, ← HN.out]; exact hlt) = (kk : Int) from by
          have := List.getElem?_eq_getElem (l := s.pc) (i := k) (by rw [HG.out.pcl, ← HN.out]; exact hlt)
          rw [hkk] at this
          exact (Option.some.inj this).symm] at hqc
        have h7 := HSH.out.row k xs hxs
        obtain ⟨l, hl⟩ : ∃ l, l = xs.length := ⟨_, rfl⟩
        rw [← hl] at hpc h7 hkl HGO
        have hki : (k : Int) < s.pc.length := by rw [hpl]; omega
        clear hl hxs hkk hpl
        by_cases hgo : kk < l
        · have c1 : ((kk : Int) == (l : Int)) = false := by simp; omega
          rw [decide_eq_true hgo] at HGO
          go_wp2_with fail
          go_quiet (fail)
          go_wp2_with fail
          refine (HDO.out _ ⟨some ⟨qb, qo, none⟩, f0, e1, f1, e2, f2, e3, f3⟩ s k (HRP.out _ (HL.out.step (below_drewN _ (Below.refl _ _))).fi.below) (HL.out.step (below_drewN _ (Below.refl _ _))).st.rd HG.out HGO.out).mono ?_
          rintro e w4 ⟨q', rfl, hfr, hb4⟩
          have HSR := hid (fun b hb => (HL.out.fi.hS b hb).2)
          have HL4 := hid (HL.out.step ((below_drewN _ (Below.refl wr.heap.size wr)).trans hb4))
          have HA4 := hid (hfr.sta HSR.out)
          have hlft := left_do3 HG.out.toGood HSH.out HGO.out
          rw [HLN.out] at hlft
          have HG4 := hid (HG.out.step HSH.out HGO.out)
          clear hfr hb4 x0 x1 x2 x3 hqc hpc HL
          obtain ⟨s', hs'⟩ : ∃ s', s' = do3 p s k := ⟨_, rfl⟩
          rw [← hs'] at HA4 HG4 hlft ⊢
          have HSE := hid hs'
          clear hs'
          obtain ⟨g0, i0, g1, i1, g2, i2, g3, i3⟩ := q'
          dsimp only
          have hb5 : Below w4.heap.size w4 (w4.alloc (.cells #[.slice g0 s'.pc.length i0, .slice g1 s'.regs.length i1, .slice g2 s'.mem.length i2, .slice g3 s'.buf.length i3] 44)) := (Below.refl _ _).alloc (Nat.le_refl _) _
          have hst5 : (w4.alloc (.cells #[.slice g0 s'.pc.length i0, .slice g1 s'.regs.length i1, .slice g2 s'.mem.length i2, .slice g3 s'.buf.length i3] 44)).heap[w4.heap.size]? = some (.cells #[.slice g0 s'.pc.length i0, .slice g1 s'.regs.length i1, .slice g2 s'.mem.length i2, .slice g3 s'.buf.length i3] 44 (0, 0)) := heap_alloc_new w4 _
          obtain ⟨w5, hw5⟩ : ∃ w5, w5 = w4.alloc (.cells #[.slice g0 s'.pc.length i0, .slice g1 s'.regs.length i1, .slice g2 s'.mem.length i2, .slice g3 s'.buf.length i3] 44) := ⟨_, rfl⟩
          rw [← hw5] at hb5 hst5
          have HL5 := hid (HL4.out.step hb5)
          have HA5 := hid (HA4.out.below hb5)
          have HX5 := hid (show BoxA w5 Sr w4.heap.size #[.slice g0 s'.pc.length i0, .slice g1 s'.regs.length i1, .slice g2 s'.mem.length i2, .slice g3 s'.buf.length i3] from ⟨hst5, fun e => by have := (HL4.out.fi.hS _ e).2; omega⟩)
          go_wp2_with fail
          rw [← hw5]
          clear hw5 hst5 hb5 HL4 HA4
          obtain ⟨H5, hH5⟩ : ∃ H5, H5 = w4.heap.size := ⟨_, rfl⟩
          rw [← hH5] at HX5 ⊢
          clear hH5
          refine (HKEY.out _ ⟨g0, i0, g1, i1, g2, i2, g3, i3⟩ s' HA5.out.rd HG4.out).mono ?_
          rintro e w6 ⟨rfl, hb6⟩
          have HL6 := hid (HL5.out.step hb6)
          have HA6 := hid (HA5.out.below hb6)
          have HX6 := hid (HX5.out.below hb6)
          clear hb6 HL5 HA5 HX5
          rw [show strOfNums (keyB s') = keyS s' from rfl]
          have HFD := hid (HFO.out w6 g Sr tbr s' HL6.out.fi.tab HL6.out.fi.ok HG4.out)
          have HMD := hid (HMK.out w6 g Sr tbr s' HL6.out.fi.tab HL6.out.fi.ok HG4.out)
          obtain ⟨F, hF⟩ : ∃ F, F = foundT tbr (keyS s') := ⟨_, rfl⟩
          rw [← hF] at HFD
          have HF := hid hF.symm
          clear hF
          go_wp2_with fail
          refine HFD.out.mono ?_
          rintro e w7 ⟨rfl, rfl⟩
          cases F
          · go_wp2_with fail
            refine HMD.out.mono ?_
            rintro e w8 ⟨rfl, S8, ht8, hk8, hs8⟩
            have HF8 := hid (HL6.out.fi.change ht8 hk8 hs8 (HL6.out.fi.ok.mark HG4.out HF.out))
            have HA8 := hid (HA6.out.chg hk8 hs8)
            have HX8 := hid (HX6.out.change hk8 hs8)
            have HKS := hid (And.intro hk8 hs8)
            have HR8 := hid (HIH.out (left4 p s') hlft w8 g S8 (markT tbr (keyS s')) ⟨g0, i0, g1, i1, g2, i2, g3, i3⟩ s' rfl HG4.out HF8.out HA8.out (HL6.out.sd.sub (tb2 := tbr) HSH.out HL6.out.fi.ok.len HG4.out (by rw [← HLN.out] at hlft ⊢; exact hlft)))
            obtain ⟨x0, x1, x2, x3⟩ := HX8.out.cells
            clear ht8 hk8 hs8
            go_wp2_with fail
            refine HR8.out.mono ?_
            rintro e w9 ⟨π, B, ar, cr, S9, tb9, rfl, hres, hrw9, hF9, hk9, hs9, hgs9⟩
            have HKC := hid (keeps_comp HKS.out.1 HKS.out.2 hk9 hs9)
            have HF9 := hid hF9
            have HRD9 := hid (Rd.own hrw9)
            have HRES := hid hres
            have HGS := hid hgs9
            clear hres hrw9 hF9 hk9 hs9 hgs9 x0 x1 x2 x3
            cases B
            · have hb : bestS p o s' = none := by
                rcases HRES.out with ⟨_, h⟩ | ⟨h, _⟩
                · cases h
                · exact h
              obtain ⟨hg9, hd9⟩ := HGS.out rfl
              have HL9 := hid ((HL6.out.turn HF9.out HKC.out.1 HKC.out.2 (HL6.out.gr.back HL6.out.fi.ok.len HG4.out hlft hg9) (HL6.out.sd.back HSH.out HL6.out.fi.ok.len HG4.out hlft hb hg9 hd9)).next fun _ => by rw [← HSE.out]; exact hb)
              clear hb hg9 hd9
              go_wp2_with fail
              go_roundw
              case rel => exact ⟨k + 1, S9, tb9, by omega, by go_num, HL9⟩
              case measure => simp [intOf]; omega
            · have hb : bestS p o s' = some π := by
                rcases HRES.out with ⟨h, _⟩ | ⟨_, h, _⟩
                · exact h
                · cases h
              have HE := hid (HYES.out (by first | rfl | trivial) k hlt HGO.out HL6.out.no π (by rw [← HSE.out]; exact hb))
              have HPI := hid (best3_len HSH.out o _ _ _ HG4.out.toGood hb)
              have hpi9 : π.length ≤ 1000 := Nat.le_trans HPI.out (left4_le HG4.out HSH.out)
              obtain ⟨m, hm⟩ : ∃ m, m = π.length := ⟨_, rfl⟩
              have HM := hid hm
              rw [← hm] at hpi9 ⊢
              have HLIT := hid (own_one w9 w9.heap.size (.int .i64 (k : Int)) 3 (Nat.le_refl _))
              have hba : Below w9.heap.size w9 (w9.alloc (.cells #[.int .i64 (k : Int)] 3)) := (Below.refl _ _).alloc (Nat.le_refl _) _
              have HRA := hid (HRD9.out.below hba)
              have HBA := hid hba
              clear hb hm hba
              go_wp2_with (at_builtin; refine wpList_append_rd rfl (.tmp 63) (.tmp 64) 23 rfl w9.heap.size 3 (.int .i64 0) 1 8 Try.underlying23 Try.info_int rfl (by decide) _ _ _ rfl HLIT.out ar m cr (ints π) rfl HRA.out (by simp [HM.out]) (ints_one _ _) (by omega) (by decide) (by simp) ?_)
              intro v10 w10 hown10 hgrow10 _
              have HB10 := hid (HBA.out.grown hgrow10 (by simp) (fun b hb => by rw [ownBlock_slice] at hb; have := (own_blk HLIT.out b hb).1; exact this))
              obtain ⟨a10, c10, rfl, _⟩ := own_shape hown10
              have HOW10 := hid hown10
              have HM1 := hid (show ((k : Int) :: π).length = 1 + m by rw [List.length_cons, HM.out]; omega)
              clear hown10 hgrow10
              go_wp2_with fail
              go_ret2
              have HX := HF9.out.step HB10.out
              obtain ⟨hkS, hsS⟩ := HL6.out.out HKC.out.1 HKC.out.2
              exact ⟨(k : Int) :: π, true, a10, c10, S9, tb9, (by rw [HM1.out]; rfl), .inl ⟨HE.out, rfl⟩, own_base (by rw [HM1.out]; exact own_cast HOW10.out rfl (by simp)) (Nat.le_trans HL6.out.kp.size HKC.out.1.size), HX, hkS.trans (Keeps.of_below HB10.out), fun b hb => (hsS b hb).imp id fun ⟨h1, h2⟩ => ⟨h1, Nat.lt_of_lt_of_le h2 HB10.out.size⟩, fun e => by cases e⟩
          · have HNB := hid (HL6.out.sd s' HG4.out hlft HF.out)
            have HL7 := hid (HL6.out.next fun _ => by rw [← HSE.out]; exact HNB.out)
            go_wp2_with fail
            go_roundw
            case rel => exact ⟨k + 1, Sr, tbr, by omega, by go_num, HL7⟩
            case measure => simp [intOf]; omega
        · have c1 : ((kk : Int) == (l : Int)) = true := by simp; omega
          rw [decide_eq_false hgo] at HGO
          have HLX := hid (HL.out.next fun h => by rw [HGO.out] at h; cases h)
          go_wp2_with fail
          go_quiet (fail)
          go_wp2_with fail
          go_roundw
          case rel => exact ⟨k + 1, Sr, tbr, by omega, by go_num, hid (HLX.out.step (below_drewN _ (Below.refl _ _)))⟩
          case measure => simp [intOf]; omega
      · have HE := hid (HNO.out (by first | rfl | trivial) (fun t ht => HL.out.no t (by omega)))
        go_wp2_with fail
        go_ret2
        have hb := (Below.refl wr.heap.size wr).alloc (Nat.le_refl _) (.cells #[] 3)
        have HX := HL.out.step hb
        exact ⟨[], false, _, _, Sr, tbr, rfl, .inr ⟨HE.out, rfl, rfl⟩, own_lit0 wr w.heap.size 3 1 HL.out.kp.size, HX.fi, HX.kp, HX.gs, fun _ => ⟨HX.gr, HX.sd⟩⟩
  · have hba := (Below.refl w2.heap.size w2).alloc (Nat.le_refl _) (.cells #[] 3)
    have HL3 := hid (HL2.out.step hba)
    have HLI := hid (own_lit0 w2 w.heap.size 3 1 HL2.out.kp.size)
    obtain ⟨y0, y1, y2, y3⟩ := HL3.out.bx.cells
    clear hba
    go_wp2_with fail
    refine (HOUT.out _ ⟨e0, f0, e1, f1, e2, f2, e3, f3⟩ s HL3.out.st.rd HG.out.toGood).mono ?_
    rintro e w4 ⟨ao4, co4, rfl, hown4, hb4⟩
    have HL4 := hid (HL3.out.step hb4)
    have HLI4 := hid (own_below HLI.out hb4)
    have HO4 := hid (Rd.own hown4)
    have HW4 := hid (HLS.out w4 ao4 ao co4 co (out3 s) o HO4.out (HRO.out _ HL4.out.fi.below) (by rw [HOL.out]; omega) (by rw [← HNO2.out]; omega))
    have HSAME := hid (less_same (out3 s) o (by rw [HOL.out, HNO2.out]))
    rw [HOL.out, ← HNO2.out] at HW4
    obtain ⟨z, hz⟩ : ∃ z, z = lessTo (out3 s) o := ⟨_, rfl⟩
    rw [← hz] at HW4 HSAME
    clear hown4 hb4 hz x0 x1 x2 x3 y0 y1 y2 y3
    go_wp2_with fail
    rw [HOL.out]
    refine HW4.out.mono ?_
    rintro e w5 ⟨rfl, hb5⟩
    have HL5 := hid (HL4.out.step hb5)
    have HLI5 := hid (own_below HLI4.out hb5)
    clear hb5
    by_cases hz0 : z = 0
    · have c0 : (z == 0) = true := by simpa using hz0
      have HE := hid (show bestS p o s = some [] by rw [HEND.out (by first | rfl | trivial), if_pos (HSAME.out.1 hz0)])
      go_wp2_with fail
      go_ret2
      exact ⟨[], true, _, _, S, tb, rfl, .inl ⟨HE.out, rfl⟩, HLI5.out, HL5.out.fi, HL5.out.kp, HL5.out.gs, fun e => by cases e⟩
    · have c0 : (z == 0) = false := by simpa using hz0
      have HE := hid (show bestS p o s = none by rw [HEND.out (by first | rfl | trivial), if_neg (fun e => hz0 (HSAME.out.2 e))])
      go_wp2_with fail
      go_ret2
      exact ⟨[], false, _, _, S, tb, rfl, .inr ⟨HE.out, rfl, rfl⟩, HLI5.out, HL5.out.fi, HL5.out.kp, HL5.out.gs, fun _ => ⟨HL5.out.gr, HL5.out.sd⟩⟩
end Go.Proofs.Ytbncmeggnhggkaa
