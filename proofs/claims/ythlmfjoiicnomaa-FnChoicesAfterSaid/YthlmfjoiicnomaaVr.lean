/-
  PROVED HERE: what spec.l5Draw, DrawRunChoices and DrawChoicesAfter do. CONDITIONS: as each theorem states.
-/
import Derived.Test.YthlmfjoiicnomaaMut
import Derived.Test.YthlmfjoiicnomaaVg
namespace Go.Proofs.Ythlmfjoiicnomaa
open Go.RowKit
set_option linter.unusedVariables false
set_option linter.unusedSimpArgs false

def slLen5 : Value → Nat | .slice _ n _ => n | _ => 0
theorem rd_one5 (w : World) (x : Int) (e : TypeId) : Rd (w.alloc (.cells #[.int .i64 x] e)) (some ⟨w.heap.size, 0, none⟩) [.int .i64 x] := rd_one0 w _ e
theorem moves5_lt {p : Prg} {s : Vs} {m : Int} (h : m ∈ moves5 p s) : m < 3 * (most5 s : Int) := by
  unfold moves5 at h
  obtain ⟨c, hc, rfl⟩ := List.mem_map.1 h
  have := List.mem_range.1 (List.mem_filter.1 hc).1
  omega
/-- The state s can be read, and stays so while the blocks of N are left alone. -/
def Kp5 (w : World) (N : Nat → Prop) (q : Sp) (s : Vs) : Prop := ∀ w', Keeps (fun b => ¬ N b) w w' → RdV w' q s
theorem Kp5.rd {w : World} {N : Nat → Prop} {q : Sp} {s : Vs} (h : Kp5 w N q s) : RdV w q s := h w (Keeps.refl _ _)
theorem Kp5.step {w w' : World} {N S : Nat → Prop} {q : Sp} {s : Vs} (h : Kp5 w N q s) (hk : Keeps S w w') (hs : ∀ b, S b → ¬ N b) : Kp5 w' N q s := fun w2 h2 => h w2 ((hk.mono hs).trans h2)
theorem FrC.kp {w : World} {B : Nat} {q : Sp} {s : Vs} (h : FrC w B q (ct s)) : Kp5 w (fun b => B ≤ b ∧ b < w.heap.size) q s := fun w' hk =>
  (h.keeps (S := fun b => b < B) ⟨hk.os, hk.tape, hk.output, hk.size, fun k h1 h2 => hk.block k h1 (fun e => e ⟨Nat.not_lt.1 h2, h1⟩)⟩ (fun b h1 (h2 : b < B) => by omega)).rd
/-- What holds while choices are drawn: the source of numbers, the state in block H, the choices so far. -/
structure MvI5 (w wx : World) (g : Nat) (bs : List Int) (k H : Nat) (q : Sp) (s : Vs) (v : Value) (m : Nat) (os : List Int) : Prop where
  gw : g < w.heap.size
  rdr : Rdr wx g bs k
  gr : w.grownBy wx (some g)
  hH : w.heap.size < H
  st : wx.heap[H]? = some (.cells (q.hd5 s) 59 (0, 0))
  own : wx.ownsRow w.heap.size 3 1 v m (ints os)
  oH : ∀ b, v.ownBlock = some b → b ≠ H
  kp : ∃ lo hi, Kp5 wx (fun b => lo ≤ b ∧ b < hi) q s ∧ w.heap.size ≤ lo ∧ hi ≤ wx.heap.size ∧ (H < lo ∨ hi ≤ H) ∧ ∀ b, v.ownBlock = some b → b < lo ∨ hi ≤ b
section
variable {w wx wy : World} {g : Nat} {bs : List Int} {k k' H : Nat} {q q' : Sp} {s s' : Vs} {v v' : Value} {m : Nat} {os : List Int}
theorem MvI5.lt (h : MvI5 w wx g bs k H q s v m os) : H < wx.heap.size := (Array.getElem?_eq_some_iff.1 h.st).1
theorem MvI5.rd (h : MvI5 w wx g bs k H q s v m os) : RdV wx q s := by obtain ⟨lo, hi, h1, _⟩ := h.kp; exact h1.rd
theorem MvI5.blk (h : MvI5 w wx g bs k H q s v m os) : ∀ b, v.ownBlock = some b → w.heap.size ≤ b ∧ b < wx.heap.size := by
  obtain ⟨a, c, rfl, hb⟩ := own_shape h.own
  rw [ownBlock_slice]
  exact hb
theorem MvI5.cells (h : MvI5 w wx g bs k H q s v m os) : wx.cell? ⟨H, 0, none⟩ = some (.slice q.a0 s.st.pc.length q.c0) ∧ wx.cell? ⟨H, 1, none⟩ = some (.slice q.a1 s.st.regs.length q.c1) ∧ wx.cell? ⟨H, 2, none⟩ = some (.slice q.a2 s.view.length q.c2) ∧ wx.cell? ⟨H, 3, none⟩ = some (.slice q.a3 s.list.length q.c3) := by
  have e := fun (i : Nat) => cell_of_row wx H i _ _ _ h.st
  exact ⟨e 0, e 1, e 2, e 3⟩
theorem MvI5.below (h : MvI5 w wx g bs k H q s v m os) (hb : Below wx.heap.size wx wy) : MvI5 w wy g bs k H q s v m os := by
  obtain ⟨lo, hi, h1, h2, h3, h4, h5⟩ := h.kp
  have hs := hb.size
  exact ⟨h.gw, h.rdr.below hb, grown_trans h.gr (grown_below hb none) (fun k hk => by cases hk), h.hH, (hb.block _ h.lt).trans h.st, own_below h.own hb, h.oH,
    lo, hi, h1.step (S := fun _ => False) (Keeps.of_below hb) (fun _ e => e.elim), h2, by omega, h4, h5⟩
theorem MvI5.pick (h : MvI5 w wx g bs k H q s v m os) (hr : Rdr wy g bs k') (hg : wx.grownBy wy (some g)) : MvI5 w wy g bs k' H q s v m os := by
  obtain ⟨lo, hi, h1, h2, h3, h4, h5⟩ := h.kp
  have hs := hg.size
  have hgw := h.gw
  have hH := h.hH
  exact ⟨h.gw, hr, grown_trans h.gr hg (fun k hk => .inl hk.symm), h.hH, (hg.block _ h.lt (fun e => by have := Option.some.inj e; omega)).trans h.st, own_rdr h.rdr h.own hg, h.oH,
    lo, hi, h1.step (S := fun b => some g = some b) (Keeps.of_grown hg fun k hk => hk) (fun b e hb => by have := Option.some.inj e; omega), h2, by omega, h4, h5⟩
theorem grown_keeps5 {S : Nat → Prop} {row : Option Nat} (hk : Keeps S wx wy) (hs : ∀ b, S b → some b = row) : wx.grownBy wy row :=
  ⟨hk.os, hk.tape, hk.output, hk.size, fun j hj hne => hk.block j hj (fun e => hne (hs j e))⟩
theorem MvI5.store (h : MvI5 w wx g bs k H q s v m os) (hb : Below wx.heap.size wx wy) (hf : FrC wy wx.heap.size q' (ct s')) : MvI5 w (wy.setRow H (q'.hd5 s')) g bs k H q' s' v m os := by
  have h' := h.below hb
  have hlt := h.lt
  have hblk := h.blk
  have hk := keeps_setRow wy H (q'.hd5 s')
  have hgr : wy.grownBy (wy.setRow H (q'.hd5 s')) (some H) := grown_keeps5 hk (fun b e => by rw [e])
  have hHw := h.hH
  obtain ⟨a, c, rfl, hb2⟩ := own_shape h'.own
  refine ⟨h.gw, h'.rdr.kept hgr (fun b e => by have := Option.some.inj e; have := h.gw; omega), grown_trans h'.gr hgr (fun b e => .inr (by have := Option.some.inj e; omega)), h.hH, setRow_heap _ _ _ _ _ _ h'.st,
    own_keeps h'.own hk (fun b hb e => h.oH b (by rw [ownBlock_slice]; exact hb) e), h.oH, wx.heap.size, wy.heap.size, hf.kp.step hk (fun b e hn => by have e : b = H := e; omega), h.gr.size, hk.size, .inl hlt, fun b hb => .inl (hblk b hb).2⟩
theorem MvI5.app (h : MvI5 w wx g bs k H q s v m os) {o : Obj} {x : Int} (hown : wy.ownsRow w.heap.size 3 1 v' (m + 1) (ints os ++ [.int .i64 x])) (hg : (wx.alloc o).grownBy wy v.ownBlock) (hat : v'.ownBlock = v.ownBlock ∨ ∃ b, v'.ownBlock = some b ∧ wx.heap.size ≤ b) : MvI5 w wy g bs k H q s v' (m + 1) (os ++ [x]) := by
  have hb : Below wx.heap.size wx (wx.alloc o) := (Below.refl _ _).alloc (Nat.le_refl _) o
  have h' := h.below hb
  have hlt := h'.lt
  have hblk := h.blk
  have hs := hg.size
  have hsa : (wx.alloc o).heap.size = wx.heap.size + 1 := by simp
  obtain ⟨lo, hi, h1', h2, h3, h4, h5⟩ := h.kp
  have h1 := h1'.step (S := fun _ => False) (Keeps.of_below hb) (fun _ e => e.elim)
  refine ⟨h.gw, h'.rdr.kept hg (fun b e => by have := (hblk b e).1; have := h.gw; omega), grown_trans h'.gr hg (fun b e => .inr (hblk b e).1), h.hH, (hg.block _ hlt (fun e => h.oH H e.symm rfl)).trans h'.st, ?_, fun b hb2 => ?_,
    lo, hi, h1.step (S := fun b => v.ownBlock = some b) (Keeps.of_grown hg fun k hk => hk) (fun b e hn => by have := h5 b e; omega), h2, by omega, h4, fun b hb2 => ?_⟩
  · have e : ints (os ++ [x]) = ints os ++ [.int .i64 x] := by simp
    rw [e]
    exact hown
  · have hlt0 := h.lt
    rcases hat with e | ⟨c, e, hc⟩
    · exact h.oH b (by rw [← e]; exact hb2)
    · rw [e] at hb2
      have := Option.some.inj hb2
      omega
  · have hlt0 := h.lt
    rcases hat with e | ⟨c, e, hc⟩
    · exact h5 b (by rw [← e]; exact hb2)
    · rw [e] at hb2
      have := Option.some.inj hb2
      omega
end
/-- A drawn row of numbers. -/
def DrawnW5 (w w' : World) (g : Nat) (bs : List Int) (q0 : Nat) (e : Ending) : Prop :=
  ∃ (os : List Int) (a : Option Addr) (cap q : Nat), e = .returned (.slice a os.length cap) ∧ Rd w' a (ints os) ∧ (∀ b, blk a = some b → w.heap.size ≤ b) ∧ os.length ≤ 200 ∧ os.length ≤ cap ∧ (∀ x ∈ os, -1 ≤ x ∧ x ≤ 100) ∧ Rdr w' g bs q ∧ q ≤ q0 ∧ w.grownBy w' (some g)
theorem DrawnW5.of {w wx : World} {g : Nat} {bs : List Int} {k H : Nat} {q : Sp} {s : Vs} {a : Option Addr} {cap m : Nat} {os : List Int} {q0 : Nat} (h : MvI5 w wx g bs k H q s (.slice a m cap) m os) (hm : os.length = m) (h3 : m ≤ 200) (hx : ∀ x ∈ os, -1 ≤ x ∧ x ≤ 100) (h5 : k ≤ q0) : DrawnW5 w wx g bs q0 (.returned (.slice a m cap)) := by
  subst hm
  exact ⟨os, a, cap, k, rfl, Rd.own h.own, fun b hb => (own_blk h.own b hb).1, h3, own_cap h.own, hx, h.rdr, h5, h.gr⟩
theorem snoc_in {os : List Int} {z : Int} (h : ∀ x ∈ os, -1 ≤ x ∧ x ≤ 100) (hz : -1 ≤ z ∧ z ≤ 100) : ∀ x ∈ os ++ [z], -1 ≤ x ∧ x ≤ 100 := fun x hx => by
  rcases List.mem_append.1 hx with e | e
  · exact h x e
  · rw [List.mem_singleton.1 e]; exact hz

set_option maxRecDepth 100000 in
set_option maxHeartbeats 1600000 in
theorem l5Draw_c (w : World) (g : Nat) (bs : List Int) (q0 : Nat) (a : Option Addr) (cap : Nat) (p : Prg) (h : Rdr w g bs q0) (hq : q0 ≤ 800000) (hp : AvP w g a p) (hv : progValid p = true) :
    Calls Try.prog 32 #[.pointer (some ⟨g, 0, none⟩), .slice a p.length cap] w fun e w' => DrawnW5 w w' g bs (q0 + 300) e := by
  have hglt := h.lt
  have hsh := (valid_of hv).toShape
  have HPK := hid (fun w (q : Nat) (n : Int) (h : Rdr w g bs q) (hq : q ≤ 1000000) (hn : n ≤ 1000000000) => pick_c w g bs q n h hq hn)
  have HST := hid (fun w => l5Start_c w a cap p (by have := hsh.len; omega))
  have HCHO := hid (fun w q s (hp : RdP w a p) (h : RdV w q s) (hg : Good5 p s) => l5Choices_c w a cap p q s hp h hsh hg)
  have HDO := hid (fun w q s t k (hp : RdP w a p) (h : RdV w q s) (hg : Good5 p s) hc => l5Do_c w a cap p q s t k hp h hsh hg hc)
  have HDN := hid (fun w q s (hp : RdP w a p) (h : RdV w q s) (hg : Good5 p s) => l5Done_c w a cap p q s hp h hsh hg)
  have HSH := hid hsh
  have HRP := hid (fun w' (hg : w.grownBy w' (some g)) => (hp.kept hg).rd)
  have HRD := hid h
  obtain ⟨n, hn⟩ : ∃ n, n = p.length := ⟨_, rfl⟩
  have HN := hid hn
  rw [← hn] at HST HCHO HDO HDN ⊢
  clear hn h hp hv hsh
  unfold Sp.v5 Sp.hd5 at HDO HCHO HDN HST
  go_enter Try.func32, Try.ntmps32
  go_wp2_with fail
  have HO1 := hid (own_lit0 w w.heap.size 3 1 (Nat.le_refl _))
  have hb1 : Below w.heap.size w (w.alloc (.cells #[] 3)) := (Below.refl w.heap.size w).alloc (Nat.le_refl _) _
  have hs1 : (w.alloc (.cells #[] 3)).heap.size = w.heap.size + 1 := by simp
  obtain ⟨w1, hw1⟩ : ∃ w1, w1 = w.alloc (.cells #[] 3) := ⟨_, rfl⟩
  rw [← hw1] at HO1 hb1 hs1 ⊢
  clear hw1
  refine (HST.out _).mono ?_
  rintro e w2 ⟨qS, rfl, hfr, hb2⟩
  go_wp2_with fail
  have hs2 := hb2.size
  have hst3 : (w2.alloc (.cells (qS.hd5 (start5 p)) 59)).heap[w2.heap.size]? = some (.cells (qS.hd5 (start5 p)) 59 (0, 0)) := heap_alloc_new w2 _
  have hb3 : Below w2.heap.size w2 (w2.alloc (.cells (qS.hd5 (start5 p)) 59)) := (Below.refl _ _).alloc (Nat.le_refl _) _
  obtain ⟨w3, hw3⟩ : ∃ w3, w3 = w2.alloc (.cells (qS.hd5 (start5 p)) 59) := ⟨_, rfl⟩
  rw [← hw3] at hst3 hb3
  have hs3 : w3.heap.size = w2.heap.size + 1 := by rw [hw3]; simp
  have hb13 : Below w.heap.size w w3 := (hb1.trans (hb2.mono (by omega))).trans (hb3.mono (by omega))
  have HI3 := hid (show MvI5 w w3 g bs q0 w2.heap.size qS (start5 p) (.slice (some ⟨w.heap.size, 0, none⟩) 0 0) 0 [] from
    ⟨hglt, HRD.out.below hb13, grown_below hb13 _, by omega, hst3, own_below (own_below HO1.out hb2) hb3, fun b hb e => (by rw [ownBlock_slice] at hb; have := Option.some.inj hb; simp at this; omega),
      w1.heap.size, w2.heap.size, hfr.kp.step (S := fun _ => False) (Keeps.of_below hb3) (fun _ e => e.elim), by omega, by omega, .inr (Nat.le_refl _), fun b hb => .inl (by rw [ownBlock_slice] at hb; have := Option.some.inj hb; simp at this; omega)⟩)
  have hH : w.heap.size < w2.heap.size := by omega
  obtain ⟨H, hHe⟩ : ∃ H, H = w2.heap.size := ⟨_, rfl⟩
  rw [← hHe] at HI3 hH ⊢
  have HZW := hid (show w3.heap.size = H + 1 by omega)
  unfold Sp.hd5 at hw3
  rw [← hw3]
  clear hst3 hb3 hb13 hw3 hfr hb2 hs2 hs3 hHe hb1 hs1 HO1
  refine (numLitAt _ (H + 1) HZW.out _ _ _ [100, 100, 3, 1, 0] HI3.out.rdr (by omega) (by decide) (by decide)).mono ?_
  rintro e w4 ⟨S, rfl, hSm, hr4, hg4⟩
  have HI4 := hid (HI3.out.pick hr4 hg4)
  have hS : 0 ≤ S ∧ S ≤ 100 := by
    simp only [List.mem_cons, List.not_mem_nil, or_false] at hSm
    omega
  clear hSm hr4 hg4
  go_wp2_with fail
  go_loopw [5, 8, 9] (fun v _ _ wx => ∃ (m k : Nat) (q : Sp) (s : Vs) (os : List Int), (m : Int) ≤ S ∧ k ≤ q0 + 1 + m ∧ Hid (os.length = m) ∧ Hid (Good5 p s) ∧ Hid (MvI5 w wx g bs k H q s v m os) ∧ Hid (∀ x ∈ os, -1 ≤ x ∧ x ≤ 100)) (fun v _ _ _ => (S - (slLen5 v : Int)).toNat)
  case atStart => exact ⟨0, q0 + 1, qS, start5 p, [], by omega, by omega, hid rfl, hid (good_start5 p), HI4, hid (fun x hx => by cases hx)⟩
  case round =>
    clear HI3 HI4
    obtain ⟨m, k, q, s, os, hmS, hkm, HOS, HGD, HI, HXS⟩ := hrel
    obtain ⟨ao, co, rfl, _⟩ := own_shape HI.out.own
    have hm100 : m ≤ 100 := by omega
    obtain ⟨e0, f0, e1, f1, e2, f2, e3, f3⟩ := q
    have hcs := HI.out.cells
    dsimp only at hcs
    have HP := hid (HRP.out _ HI.out.gr)
    by_cases hlt : (m : Int) < S
    · have HD := hid (HDN.out _ ⟨e0, f0, e1, f1, e2, f2, e3, f3⟩ s HP.out HI.out.rd HGD.out)
      obtain ⟨D, hD⟩ : ∃ D, D = done5 p s := ⟨_, rfl⟩
      rw [← hD] at HD
      have HDD := hid hD
      clear hD
      go_wp2_with fail
      refine HD.out.mono ?_
      rintro e w5 ⟨rfl, hb5⟩
      have HI5 := hid (HI.out.below hb5)
      clear hcs HD
      have hcs := HI5.out.cells
      dsimp only at hcs
      clear hb5
      cases D
      · have hne := moves5_ne HGD.out HSH.out HDD.out.symm
        have hml := moves5_len HGD.out HSH.out
        have HP5 := hid (HRP.out _ HI5.out.gr)
        have HCH := hid (HCHO.out _ ⟨e0, f0, e1, f1, e2, f2, e3, f3⟩ s HP5.out HI5.out.rd HGD.out)
        obtain ⟨ML, hML⟩ : ∃ ML, ML = moves5 p s := ⟨_, rfl⟩
        have HML := hid hML
        rw [← hML] at HCH hne hml
        clear hML
        have hmp : 0 < ML.length := List.length_pos_iff.2 hne
        clear hne
        go_wp2_with fail
        refine HCH.out.mono ?_
        rintro e w6 ⟨a6, c6, rfl, hown6, hb6⟩
        have HI6 := hid (HI5.out.below hb6)
        have HR6 := hid (Rd.own hown6)
        have hs5 := HI5.out.gr.size
        have HBK6 := hid (fun b hb => Nat.le_trans hs5 (own_blk hown6 b hb).1)
        clear hcs HCH hb6 hown6
        go_wp2_with fail
        refine (HPK.out _ _ _ HI6.out.rdr (by omega) (by omega)).mono ?_
        rintro e w7 ⟨x, rfl, hx0, hx1, hr7, hg7⟩
        obtain ⟨t0, rfl⟩ : ∃ t0 : Nat, x = t0 := ⟨x.toNat, by omega⟩
        have ht0 : t0 < ML.length := by omega
        have HI7 := hid (HI6.out.pick hr7 hg7)
        have HR7 := hid (HR6.out.keeps (S := fun b => some g = some b) (Keeps.of_grown hg7 fun k hk => hk) (fun b hb e => by have := HBK6.out b hb; have := Option.some.inj e; omega))
        clear hx0 hx1 hr7 hg7
        obtain ⟨b7, o7, hab, hbl, hc7⟩ := HR7.out.int t0 ht0
        subst hab
        have hmem : ML[t0] ∈ moves5 p s := by rw [← HML.out]; exact List.getElem_mem _
        have hlt7 := moves5_lt hmem
        have hmo := HGD.out.most_le HSH.out
        obtain ⟨t, ht, hcan⟩ := (mem_moves5 HGD.out HSH.out _).1 hmem
        rw [ht] at hc7 hlt7
        have HCT := hid hcan
        have HST8 := hid (show Good5 p (do5 p s (t % 3) (t / 3)) by have := stepC HSH.out HGD.out (m := (t : Int)) (by rw [← ht]; exact hmem); simpa [doC] using this)
        have ht75 : t ≤ 100 := by omega
        clear hmem ht hcan hlt7 hmo hbl
        have hcs := HI7.out.cells
        dsimp only at hcs
        have HP7 := hid (HRP.out _ HI7.out.gr)
        have ex : ((t % 3 : Nat) : Int) = (t : Int) % 3 := by omega
        have ey : ((t / 3 : Nat) : Int) = (t : Int) / 3 := by omega
        have HDC := hid (HDO.out w7 ⟨e0, f0, e1, f1, e2, f2, e3, f3⟩ s (t % 3) (t / 3) HP7.out HI7.out.rd HGD.out HCT.out)
        rw [ex, ey] at HDC
        clear ex ey
        go_wp2_with fail
        refine HDC.out.mono ?_
        rintro e w8 ⟨q', rfl, hf8, hb8⟩
        have HS8 := hid ((HI7.out.below hb8).st)
        have HI8 := hid (HI7.out.store hb8 hf8)
        clear hf8 hb8 hcs HDC hc7
        obtain ⟨s', hs'⟩ : ∃ s', s' = do5 p s (t % 3) (t / 3) := ⟨_, rfl⟩
        rw [← hs'] at HI8 HST8 ⊢
        clear hs'
        have hs9 := HI8.out.gr.size
        have HO9 := hid (own_below HI8.out.own ((Below.refl _ _).alloc (Nat.le_refl _) (.cells #[.int .i64 (t : Int)] 3)))
        have HZ9 := hid (show w.heap.size ≤ ((w8.setRow H (q'.hd5 s')).alloc (.cells #[.int .i64 (t : Int)] 3)).heap.size by rw [World.size_alloc]; omega)
        have hz9 : (w8.setRow H (q'.hd5 s')).heap.size = w8.heap.size := by simp [World.setRow]
        have HR9 := hid (rd_one5 (w8.setRow H (q'.hd5 s')) (t : Int) 3)
        rw [hz9] at HR9
        clear hz9
        go_wp2_with (first | (refine wpList_store_row rfl 59 (.tmp 6) (.tmp 42) rfl H _ rfl rfl 59 _ HS8.out (by kernel_rfl) rfl (one5 q' s') ?_) | (at_builtin; go_loud (refine wpList_append_rd rfl (.tmp 43) (.tmp 45) 24 rfl w.heap.size 3 (.int .i64 0) 1 8 Try.underlying24 Try.info_int rfl (by decide) _ _ _ rfl HO9.out _ 1 1 [.int .i64 (t : Int)] rfl HR9.out rfl (by simp [Value.oneCell']) (by omega) (by decide) HZ9.out ?_)))
        intro v10 w10 hown10 hgrow10 hat10
        have HI10 := hid (HI8.out.app hown10 hgrow10 (hat10.imp id fun e => ⟨_, e, by simp [World.setRow]⟩))
        obtain ⟨a10, c10, rfl, _⟩ := own_shape hown10
        have HOS10 := hid (show (os ++ [(t : Int)]).length = m + 1 by rw [List.length_append, HOS.out]; rfl)
        have HXS10 := hid (snoc_in HXS.out (show -1 ≤ (t : Int) ∧ (t : Int) ≤ 100 by omega))
        clear hown10 hgrow10 hat10
        go_wp2_with fail
        go_roundw
        case rel => exact ⟨m + 1, k + 1, q', s', os ++ [(t : Int)], by omega, by omega, HOS10, HST8, HI10, HXS10⟩
        case measure => simp [slLen5]; omega
      · have HI9 := hid HI5.out
        clear HI HI5 hcs
        go_wp2_with fail
        refine (HPK.out _ _ _ HI9.out.rdr (by omega) (by omega)).mono ?_
        rintro e w13 ⟨y, rfl, _, _, hr13, hg13⟩
        have HI13 := hid (HI9.out.pick hr13 hg13)
        clear hr13 hg13
        by_cases y0 : y = 0
        · subst y0
          go_wp2_with fail
          refine (numLit _ _ _ _ [0, 9, -1, 50] HI13.out.rdr (by omega) (by decide) (by decide)).mono ?_
          rintro e w14 ⟨z, rfl, hz, hr14, hg14⟩
          have HI14 := hid (HI13.out.pick hr14 hg14)
          have hz1 : -1 ≤ z ∧ z ≤ 100 := by
            simp only [List.mem_cons, List.not_mem_nil, or_false] at hz
            omega
          have HXS14 := hid (snoc_in HXS.out hz1)
          have hs14 := HI14.out.gr.size
          have HO14 := hid (own_below HI14.out.own ((Below.refl _ _).alloc (Nat.le_refl _) (.cells #[.int .i64 z] 3)))
          clear hr14 hg14 hz
          go_wp2_with (at_builtin; refine wpList_append_rd rfl (.tmp 50) (.tmp 54) 24 rfl w.heap.size 3 (.int .i64 0) 1 8 Try.underlying24 Try.info_int rfl (by decide) _ _ _ rfl HO14.out _ 1 1 [.int .i64 z] rfl (rd_one5 w14 z _) rfl (by simp [Value.oneCell']) (by omega) (by decide) (by simp; omega) ?_)
          intro v15 w15 hown15 hgrow15 hat15
          have HI15 := hid (HI14.out.app hown15 hgrow15 (hat15.imp id fun e => ⟨_, e, by omega⟩))
          obtain ⟨a15, c15, rfl, _⟩ := own_shape hown15
          have HOS15 := hid (show (os ++ [z]).length = m + 1 by rw [List.length_append, HOS.out]; rfl)
          clear hown15 hgrow15 hat15
          go_wp2_with fail
          go_ret
          exact DrawnW5.of HI15.out HOS15.out (by omega) HXS14.out (by omega)
        · have y0' : (y == 0) = false := by simpa using y0
          go_wp2_with fail
          go_ret
          exact DrawnW5.of HI13.out HOS.out (by omega) HXS.out (by omega)
    · have HI9 := hid HI.out
      clear HI hcs
      go_wp2_with fail
      refine (HPK.out _ _ _ HI9.out.rdr (by omega) (by omega)).mono ?_
      rintro e w13 ⟨y, rfl, _, _, hr13, hg13⟩
      have HI13 := hid (HI9.out.pick hr13 hg13)
      clear hr13 hg13
      by_cases y0 : y = 0
      · subst y0
        go_wp2_with fail
        refine (numLit _ _ _ _ [0, 9, -1, 50] HI13.out.rdr (by omega) (by decide) (by decide)).mono ?_
        rintro e w14 ⟨z, rfl, hz, hr14, hg14⟩
        have HI14 := hid (HI13.out.pick hr14 hg14)
        have hz1 : -1 ≤ z ∧ z ≤ 100 := by
          simp only [List.mem_cons, List.not_mem_nil, or_false] at hz
          omega
        have HXS14 := hid (snoc_in HXS.out hz1)
        have hs14 := HI14.out.gr.size
        have HO14 := hid (own_below HI14.out.own ((Below.refl _ _).alloc (Nat.le_refl _) (.cells #[.int .i64 z] 3)))
        clear hr14 hg14 hz
        go_wp2_with (at_builtin; refine wpList_append_rd rfl (.tmp 50) (.tmp 54) 24 rfl w.heap.size 3 (.int .i64 0) 1 8 Try.underlying24 Try.info_int rfl (by decide) _ _ _ rfl HO14.out _ 1 1 [.int .i64 z] rfl (rd_one5 w14 z _) rfl (by simp [Value.oneCell']) (by omega) (by decide) (by simp; omega) ?_)
        intro v15 w15 hown15 hgrow15 hat15
        have HI15 := hid (HI14.out.app hown15 hgrow15 (hat15.imp id fun e => ⟨_, e, by omega⟩))
        obtain ⟨a15, c15, rfl, _⟩ := own_shape hown15
        have HOS15 := hid (show (os ++ [z]).length = m + 1 by rw [List.length_append, HOS.out]; rfl)
        clear hown15 hgrow15 hat15
        go_wp2_with fail
        go_ret
        exact DrawnW5.of HI15.out HOS15.out (by omega) HXS14.out (by omega)
      · have y0' : (y == 0) = false := by simpa using y0
        go_wp2_with fail
        go_ret
        exact DrawnW5.of HI13.out HOS.out (by omega) HXS.out (by omega)
theorem results_tmp2 {fn : Func} {t u : Tmp} (h : fn.results = #[.tmp t, .tmp u]) (tmps : Array Value) (P : Program) (w : World) :
    (results fn tmps).run P w = .ok (.tuple #[tmps.getD t undef, tmps.getD u undef]) w := by
  simp [results, h]
/-- A drawn program and a drawn row of numbers. -/
def DrawnPC (w w' : World) (e : Ending) : Prop :=
  ∃ (p : Prg) (os : List Int) (a : Option Addr) (cap : Nat) (a' : Option Addr) (cap' : Nat), e = .returned (.tuple #[.slice a p.length cap, .slice a' os.length cap']) ∧ RdP w' a p ∧ Rd w' a' (ints os) ∧ sizeP p ≤ 100 ∧ os.length ≤ 200 ∧ os.length ≤ cap' ∧ (∀ x ∈ os, -1 ≤ x ∧ x ≤ 100) ∧ Below w.heap.size w w'

set_option maxRecDepth 100000 in
set_option maxHeartbeats 1600000 in
theorem drawRC_c (w : World) (a : Option Addr) (cap : Nat) (bs : List Int) (h : Rd w a (u8s bs)) (hwf : ∀ x ∈ bs, 0 ≤ x ∧ x ≤ 255) (hl : bs.length ≤ 1048576) (hcap : bs.length ≤ cap) (hcm : cap ≤ 9223372036854775807) :
    Calls Try.prog 8 #[.slice a bs.length cap] w fun e w' => DrawnPC w w' e := by
  have HOP := hid (open_c w a cap bs h hwf hl hcap hcm)
  have HDR := hid (fun w (g q : Nat) (bs : List Int) (h : Rdr w g bs q) (hq : q ≤ 800000) => l1Draw_c w g bs q h hq)
  have HMU := hid (fun w (g q : Nat) (bs : List Int) a cap P (h : Rdr w g bs q) (hq : q ≤ 800000) hP hs => l1Mutate_c w g bs q a cap P h hq hP hs)
  have HMV := hid (fun w (g q : Nat) (bs : List Int) a cap P (h : Rdr w g bs q) (hq : q ≤ 800000) hP hv => l5Draw_c w g bs q a cap P h hq hP hv)
  clear h hwf
  go_enter Try.func8, Try.ntmps8
  go_wp2_with fail
  refine HOP.out.mono ?_
  rintro e w1 ⟨bs', rfl, hr1, hb1⟩
  have HR1 := hid hr1
  have HB1 := hid hb1
  have hlt1 := hr1.lt
  clear hr1 hb1
  go_wp2_with fail
  refine (HDR.out _ _ _ _ HR1.out (by omega)).mono ?_
  rintro e w3 ⟨P, a3, c3, q3, rfl, hc3, ha3, hv3, hr3, hq3, hg3⟩
  have HR3 := hid hr3
  have HA3 := hid ha3
  have HV3 := hid hv3
  have HZ3 := hid (shape_size (valid_of hv3).toShape)
  have HB3 := hid (below_grown HB1.out hg3 (Nat.le_refl _) (by omega))
  have hs3 := hg3.size
  clear hr3 ha3 hg3 hv3
  go_wp2_with fail
  refine (HMV.out _ _ _ _ _ _ _ HR3.out (by omega) HA3.out HV3.out).mono ?_
  rintro e w5 ⟨os, a5, c5, q5, rfl, hrd5, hne5, hl5, hlc5, hx5, hr5, hq5, hg5⟩
  have HR5 := hid hr5
  have HX5 := hid hx5
  have HA5 := hid (HA3.out.kept hg5)
  have HB5 := hid (below_grown HB3.out hg5 (Nat.le_refl _) (by omega))
  have HO5 := hid hrd5
  have HNE5 := hid hne5
  have hs5 := hg5.size
  clear hr5 hrd5 hg5 hne5 hx5
  go_wp2_with fail
  refine (HMU.out _ _ _ _ _ _ _ HR5.out (by omega) HA5.out (by have := HZ3.out; omega)).mono ?_
  rintro e w6 ⟨P6, a6, c6, q6, rfl, hc6, ha6, hz6, hr6, hq6, hg6⟩
  have HA6 := hid ha6
  have HZ6 := hid hz6
  have HO6 := hid (HO5.out.keeps (S := fun b => some w.heap.size = some b) (Keeps.of_grown hg6 fun k hk => hk) (fun b hb e => by have := HNE5.out b hb; have := Option.some.inj e; omega))
  have HB6 := hid (below_grown HB5.out hg6 (Nat.le_refl _) (by omega))
  clear hr6 ha6 hz6 hg6
  go_wp2
  (try simp only [Exit.inBlock, Exit.then]); refine bodyPost_ret (results_tmp2 rfl _ _ _) rfl ?_
  exact ⟨P6, os, a6, c6, a5, c5, rfl, HA6.out.rd, HO6.out, by have := HZ3.out; have := HZ6.out; omega, hl5, hlc5, HX5.out, HB6.out⟩
theorem drawCA_c (w : World) (a : Option Addr) (cap : Nat) (bs : List Int) (h : Rd w a (u8s bs)) (hwf : ∀ x ∈ bs, 0 ≤ x ∧ x ≤ 255) (hl : bs.length ≤ 1048576) (hcap : bs.length ≤ cap) (hcm : cap ≤ 9223372036854775807) :
    Calls Try.prog 12 #[.slice a bs.length cap] w fun e w' => DrawnPC w w' e := by
  have C := hid (drawRC_c w a cap bs h hwf hl hcap hcm)
  clear h hwf
  go_enter Try.func12, Try.ntmps12
  go_wp2_with fail
  refine C.out.mono ?_
  rintro e w1 ⟨p, os, a1, c1, a2, c2, rfl, h1, h2, h3, h4, h4c, h4x, h5⟩
  have H1 := hid (And.intro h1 (And.intro h2 h5))
  clear h1 h2 h5
  go_wp2
  (try simp only [Exit.inBlock, Exit.then]); refine bodyPost_ret (results_tmp2 rfl _ _ _) rfl ?_
  exact ⟨p, os, a1, c1, a2, c2, rfl, H1.out.1, H1.out.2.1, h3, h4, h4c, h4x, H1.out.2.2⟩
end Go.Proofs.Ythlmfjoiicnomaa
