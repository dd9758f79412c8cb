/-
  PROVED HERE: what spec.l3Schedule and DrawRunSchedule do. CONDITIONS: as each theorem states.
-/
import Derived.Test.YtppocbkbkiokdaaMut
import Derived.Test.YtppocbkbkiokdaaScl
import Derived.Test.YtppocbkbkiokdaaSpd
namespace Go.Proofs.Ytppocbkbkiokdaa
open Go.RowKit
set_option linter.unusedVariables false
set_option linter.unusedSimpArgs false

def lsI (p : Prg) : List Int := p.map fun xs => (xs.length : Int)
theorem lsI_step {p : Prg} {k : Nat} {xs : List Ins} (hx : p[k]? = some xs) : (lsI p).take (k + 1) = (lsI p).take k ++ [(xs.length : Int)] := by
  obtain ⟨hk, rfl⟩ := List.getElem?_eq_some_iff.1 hx
  rw [List.take_succ_eq_append_getElem (by simp [lsI]; exact hk)]
  simp [lsI]
theorem lsI_el {p : Prg} (h : Shape p) : ∀ x ∈ lsI p, 0 ≤ x ∧ x ≤ 7 := by
  intro x hx
  unfold lsI at hx
  obtain ⟨xs, hxs, rfl⟩ := List.mem_map.1 hx
  obtain ⟨i, hi⟩ := List.mem_iff_getElem?.1 hxs
  have := h.row i xs hi
  omega
theorem sum_bd : ∀ {xs : List Int}, (∀ x ∈ xs, 0 ≤ x ∧ x ≤ 7) → 0 ≤ xs.sum ∧ xs.sum ≤ 7 * xs.length
  | [], _ => by simp
  | x :: xs, h => by
    have h1 := sum_bd fun y hy => h y (List.mem_cons_of_mem _ hy)
    have h2 := h x List.mem_cons_self
    rw [List.sum_cons, List.length_cons]
    omega
theorem take_bd {xs : List Int} (h : ∀ x ∈ xs, 0 ≤ x ∧ x ≤ 7) (k : Nat) : 0 ≤ (xs.take k).sum ∧ (xs.take k).sum ≤ 7 * k := by
  have := sum_bd (xs := xs.take k) fun x hx => h x (List.mem_of_mem_take hx)
  have := List.length_take_le k xs
  omega
theorem set_dec {xs : List Int} {t : Nat} {v : Int} (h : ∀ x ∈ xs, 0 ≤ x ∧ x ≤ 7) (hv : xs[t]? = some v) (h0 : v ≠ 0) : ∀ x ∈ xs.set t (v - 1), 0 ≤ x ∧ x ≤ 7 := by
  intro x hx
  rcases List.mem_or_eq_of_mem_set hx with hm | rfl
  · exact h x hm
  · have := h v (List.mem_of_getElem? hv)
    omega
def slLen : Value → Nat | .slice _ n _ => n | _ => 0
/-- How far it is to thread j, in a round of n. -/
def dist (j n t : Nat) : Nat := if t ≤ j then j - t else j + n - t
theorem grown_setCell {w w1 : World} {row : Option Nat} (h : w.grownBy w1 row) {G : Nat} (hG : w.heap.size ≤ G) (k : Nat) (v : Value) : w.grownBy (w1.setCell ⟨G, k, none⟩ v) row :=
  grown_trans (row2 := some G) h ⟨rfl, rfl, rfl, by simp, fun j _ hj => heap_setCell_other w1 ⟨G, k, none⟩ j v (fun e => hj (by simp [e]))⟩ (fun j hj => .inr (by cases hj; exact hG))
theorem Rdr.setCell {w : World} {g : Nat} {bs : List Int} {p : Nat} (h : Rdr w g bs p) {G : Nat} (hG : g < G) (k : Nat) (v : Value) : Rdr (w.setCell ⟨G, k, none⟩ v) g bs p :=
  h.kept (row := some G) ⟨rfl, rfl, rfl, by simp, fun j _ hj => heap_setCell_other w ⟨G, k, none⟩ j v (fun e => hj (by simp [e]))⟩ (fun j hj => by cases hj; exact hG)
theorem rd_tail {w : World} {G : Nat} {os : List Int} (h : Rd w (some ⟨G, 0, none⟩) (ints os)) : Rd w (some ⟨G, 1, none⟩) (ints os.tail) := by
  rcases h with h | ⟨b, off, e, hlt, hc⟩
  · left
    cases os with
    | nil => rfl
    | cons x xs => cases h
  · right
    simp only [Option.some.injEq, Addr.mk.injEq, and_true] at e
    obtain ⟨rfl, rfl⟩ := e
    refine ⟨G, 1, rfl, hlt, fun j u hj => ?_⟩
    have := hc (j + 1) u (by cases os with
      | nil => simp at hj
      | cons x xs => simpa using hj)
    rw [show 1 + j = 0 + (j + 1) by omega]
    exact this
/-- A drawn row of numbers. -/
def DrawnS (w w' : World) (g : Nat) (bs : List Int) (q0 : Nat) (e : Ending) : Prop :=
  ∃ (os : List Int) (a : Option Addr) (cap q : Nat), e = .returned (.slice a os.length cap) ∧ Rd w' a (ints os) ∧ (∀ b, blk a = some b → b ≠ g) ∧ os.length ≤ 100 ∧ Rdr w' g bs q ∧ q ≤ q0 ∧ w.grownBy w' (some g)
theorem DrawnS.of {w w' : World} {g : Nat} {bs : List Int} {q0 m : Nat} {os : List Int} {a : Option Addr} {cap q : Nat} (hm : os.length = m) (h1 : Rd w' a (ints os)) (h2 : ∀ b, blk a = some b → b ≠ g) (h3 : m ≤ 100) (h4 : Rdr w' g bs q) (h5 : q ≤ q0) (h6 : w.grownBy w' (some g)) : DrawnS w w' g bs q0 (.returned (.slice a m cap)) := by
  subst hm
  exact ⟨os, a, cap, q, rfl, h1, h2, h3, h4, h5, h6⟩

set_option maxRecDepth 100000 in
set_option maxHeartbeats 3200000 in
theorem l3Schedule_c (w : World) (g : Nat) (bs : List Int) (q0 : Nat) (a : Option Addr) (cap : Nat) (p : Prg) (h : Rdr w g bs q0) (hq : q0 ≤ 800000) (hp : RdP w a p) (hv : progValid p = true) :
    Calls Try.prog 11 #[.pointer (some ⟨g, 0, none⟩), .slice a p.length cap] w fun e w' => DrawnS w w' g bs (q0 + 40) e := by
  have hglt := h.lt
  have HPK := hid (fun w (q : Nat) (n : Int) (h : Rdr w g bs q) (hq : q ≤ 1000000) (hn : n ≤ 1000000000) => pick_c w g bs q n h hq hn)
  have HRD := hid h
  have HRP := hid hp
  have hval := valid_of hv
  have hpl := hval.len
  have hpos := hval.pos
  have HTK := hid (fun k xs (hx : p[k]? = some xs) => lsI_step hx)
  have HB7 := hid (fun k xs (hx : p[k]? = some xs) => hval.row k xs hx)
  have HEL := hid (lsI_el hval.toShape)
  obtain ⟨n, hn⟩ : ∃ n, n = p.length := ⟨_, rfl⟩
  have HN := hid hn
  rw [← hn] at hpl hpos ⊢
  obtain ⟨L, hL⟩ : ∃ L, L = lsI p := ⟨_, rfl⟩
  have HLL := hid (show L.length = n by rw [hL, hn]; simp [lsI])
  rw [← hL] at HTK HEL
  clear hn hL h hp hv hval
  go_enter Try.func11, Try.ntmps11
  go_wp2_with fail
  have HO1 := hid (own_lit0 w w.heap.size 3 1 (Nat.le_refl _))
  have HB1 := hid ((Below.refl w.heap.size w).alloc (Nat.le_refl _) (.cells #[] 3))
  go_loopw [5, 6, 7] (fun v s i wr => ∃ k : Nat, k ≤ n ∧ i = .int .i64 k ∧ s = .int .i64 (L.take k).sum ∧ Hid (wr.ownsRow w.heap.size 3 1 v k (ints (L.take k))) ∧ Hid (Below w.heap.size w wr)) (fun _ _ i _ => n - (intOf i).toNat)
  case atStart => exact ⟨0, Nat.zero_le _, rfl, by simp, hid (by simpa using HO1.out), HB1⟩
  case round =>
    obtain ⟨k, hk, rfl, rfl, HO, HB⟩ := hrel
    have hsb := take_bd HEL.out k
    by_cases hlt : k < n
    · obtain ⟨b, off, r, c, xs, hab, hb, hx, hc, hr⟩ := HRP.out.at k (by rw [← HN.out]; exact hlt)
      subst hab
      have HT := hid (HTK.out k xs hx)
      have hx7 := HB7.out k xs hx
      have hcx := (HB.out.cell (p := ⟨b, off + k, none⟩) hb).trans hc
      have hbs := HB.out.size
      obtain ⟨m, hm⟩ : ∃ m, m = xs.length := ⟨_, rfl⟩
      rw [← hm] at hcx hx7 HT hc
      have HC := hid (And.intro hb hc)
      have HTV := hid (show (List.map (Value.int .i64) L).take k ++ [Value.int .i64 (m : Int)] = ints (L.take (k + 1)) by rw [HT.out]; simp)
      have HSV := hid (show (L.take (k + 1)).sum = (L.take k).sum + (m : Int) by rw [HT.out, List.sum_append]; simp)
      obtain ⟨s, hs⟩ : ∃ s, s = (L.take k).sum := ⟨_, rfl⟩
      rw [← hs] at HSV hsb ⊢
      clear hc hx hr hb hm hs
      go_wp2_with (at_builtin; refine wpList_append_one rfl (.tmp 17) (.tmp 23) 24 rfl w.heap.size 3 (.int .i64 0) 8 Try.underlying24 Try.info_int rfl _ _ _ rfl (HO.out.alloc _) _ (.int .i64 (m : Nat)) rfl (by simp) rfl (by omega) (by omega) (by simp; omega) ?_)
      intro v1 w2 hown1 hgrow1
      rw [HTV.out] at hown1
      have HO2 := hid hown1
      have HB2 := hid ((HB.out.alloc HB.out.size _).grown hgrow1 (by simp; omega) (fun b hb => (HO.out.lt b hb).1))
      have hcx2 := (HB2.out.cell (p := ⟨b, off + k, none⟩) HC.out.1).trans HC.out.2
      clear hown1 hgrow1 hcx
      go_wp2_with fail
      go_roundw
      case rel => exact ⟨k + 1, by omega, by go_num, by rw [HSV.out], HO2, HB2⟩
      case measure => simp [intOf]; omega
    · obtain rfl : k = n := by omega
      have HTN := hid (show L.take k = L from List.take_of_length_le (by rw [HLL.out]; exact Nat.le_refl _))
      rw [HTN.out] at HO hsb ⊢
      obtain ⟨a1, cap1, rfl, _⟩ := own_shape HO.out
      obtain ⟨gl, rfl, hgl, hgl2⟩ := own_some HO.out hpos
      obtain ⟨A, hA⟩ : ∃ A, A = L.sum := ⟨_, rfl⟩
      rw [← hA] at hsb ⊢
      have HA := hid hA
      have hss := HB.out.size
      clear hA
      go_wp2_with fail
      have HOL0 := hid (HO.out.alloc (.cells #[] 3))
      have HB2 := hid (HB.out.alloc HB.out.size (.cells #[] 3))
      have HG2 := hid (grown_below HB2.out (some g))
      have HR2 := hid (HRD.out.below HB2.out)
      have HO2 := hid (own_lit0 wr wr.heap.size 3 1 (Nat.le_refl _))
      obtain ⟨H, hH⟩ : ∃ H, H = wr.heap.size := ⟨_, rfl⟩
      rw [← hH] at HO2 hgl2 hss ⊢
      have HHH := hid hH
      obtain ⟨w2, hw2⟩ : ∃ w2, w2 = wr.alloc (.cells #[] 3) := ⟨_, rfl⟩
      rw [← hw2] at HOL0 HB2 HG2 HR2 HO2 ⊢
      have hs2 : H ≤ w2.heap.size := by rw [hw2, hH]; simp
      clear hw2 hH
      go_loopw [8, 9] (fun v t wx => ∃ (m q : Nat) (ls os : List Int), (m : Int) ≤ A ∧ q ≤ q0 + m ∧ H ≤ wx.heap.size ∧ Hid (os.length = m) ∧ Hid (ls.length = k) ∧ Hid (ls.sum = A - m) ∧ Hid (∀ x ∈ ls, 0 ≤ x ∧ x ≤ 7) ∧ Hid (wx.ownsRow H 3 1 v m (ints os)) ∧ Hid (wx.ownsRow w.heap.size 3 1 (.slice (some ⟨gl, 0, none⟩) k cap1) k (ints ls)) ∧ Hid (Rdr wx g bs q) ∧ Hid (w.grownBy wx (some g))) (fun v _ _ => (A - (slLen v : Int)).toNat)
      case atStart => exact ⟨0, q0, L, [], by omega, by omega, hs2, hid rfl, HLL, hid (by rw [← HA.out]; simp), HEL, HO2, HOL0, HR2, HG2⟩
      case round =>
        obtain ⟨m, q, ls, os, hmA, hqm, hHx, HOS, HLS, HSUM, HBD, HOO, HOL, HRX, HGX⟩ := hrel
        obtain ⟨ao, co, rfl, hob⟩ := own_shape HOO.out
        have HOB := hid hob
        have hsx := HGX.out.size
        clear hob
        by_cases hmA' : (m : Int) < A
        · go_wp2_with fail
          refine (HPK.out _ _ _ HRX.out (by omega) (by omega)).mono ?_
          rintro e w3 ⟨x, rfl, hx0, hx1, hr3, hg3⟩
          obtain ⟨t0, rfl⟩ : ∃ t0 : Nat, x = t0 := ⟨x.toNat, by omega⟩
          have ht0 : t0 < k := by omega
          have HR3 := hid hr3
          have HG3 := hid (grown_trans HGX.out hg3 (fun k hk => .inl hk.symm))
          have HOL3 := hid (own_kept_g HOL.out hg3 hglt)
          have HOO3 := hid (own_kept_g HOO.out hg3 (by omega))
          have hs3 := hg3.size
          obtain ⟨j, hjk, hj0⟩ := pos_some (xs := ls) (by rw [HSUM.out]; omega)
          rw [HLS.out] at hjk
          have HJ := hid hj0
          have HCELL := hid (fun (t : Nat) (ht : t < k) => show ∃ z : Int, ls[t]? = some z ∧ w3.cell? ⟨gl, t, none⟩ = some (.int .i64 z) from by
            obtain ⟨z, hz⟩ : ∃ z, ls[t]? = some z := ⟨_, List.getElem?_eq_getElem (by rw [HLS.out]; exact ht)⟩
            exact ⟨z, hz, (HOL3.out.cellAt t (by omega)).trans (by simp [hz])⟩)
          clear hx0 hx1 hr3 hg3 hj0
          go_wp2_with fail
          go_loop [9] (fun tv => ∃ t : Nat, t < k ∧ tv = .int .i64 t) (fun tv => dist j k (intOf tv).toNat)
          case atStart => exact ⟨t0, ht0, rfl⟩
          case round =>
            obtain ⟨t, ht, rfl⟩ := hrel
            obtain ⟨z, hz, hcz⟩ := HCELL.out t ht
            have HZ := hid hz
            by_cases hz0 : z = 0
            · have htj : t ≠ j := fun e => HJ.out (by rw [← e, List.getD_eq_getElem?_getD, HZ.out, hz0]; rfl)
              obtain ⟨T', hT, hTk, hTd⟩ : ∃ T' : Nat, ((t : Int) + 1) % (k : Int) = (T' : Int) ∧ T' < k ∧ dist j k T' < dist j k t := by
                by_cases hl : t + 1 < k
                · refine ⟨t + 1, ?_, hl, ?_⟩
                  · rw [Int.emod_eq_of_lt (by omega) (by omega)]; rfl
                  · unfold dist; split <;> split <;> omega
                · have e : t + 1 = k := by omega
                  refine ⟨0, ?_, by omega, ?_⟩
                  · rw [show (t : Int) + 1 = (k : Int) by omega, Int.emod_self]; rfl
                  · unfold dist; rw [if_pos (Nat.zero_le _)]; split <;> omega
              subst hz0
              have hk0 : ¬ ((k : Int) = 0) := by omega
              clear hz
              go_wp2_with fail
              go_round
              case rel => exact ⟨T', hTk, by rw [hT]⟩
              case measure => rw [hT]; simpa [intOf] using hTd
            · have hzb := HBD.out z (List.mem_of_getElem? hz)
              have hz0' : (z == 0) = false := by simpa using hz0
              have hfz := HOL3.out.frozenAt t
              have HST := hid (HOL3.out.stored t (.int .i64 (z - 1))).1
              rw [ints_set] at HST
              have HSUM4 := hid (sum_dec hz)
              have HBD4 := hid (set_dec HBD.out hz hz0)
              have HLS4 := hid (show (ls.set t (z - 1)).length = k by rw [List.length_set]; exact HLS.out)
              have HG4 := hid (grown_setCell HG3.out hgl t (.int .i64 (z - 1)))
              have HR4 := hid (HR3.out.setCell (by omega) t (.int .i64 (z - 1)) : Rdr (w3.setCell ⟨gl, t, none⟩ (.int .i64 (z - 1))) g bs (q + 1))
              have HOO4 := hid (own_keeps HOO3.out (Keeps.setCell w3 ⟨gl, t, none⟩ (.int .i64 (z - 1))) (fun b hb e => by have := (own_blk HOO3.out b hb).1; simp at e; omega))
              have hs4 : (w3.setCell ⟨gl, t, none⟩ (.int .i64 (z - 1))).heap.size = w3.heap.size := by simp [World.setCell]
              have HNEW := hid (show ((w3.setCell ⟨gl, t, none⟩ (.int .i64 (z - 1))).alloc (.cells #[.int .i64 (t : Int)] 3)).cell? ⟨w3.heap.size, 0, none⟩ = some (.int .i64 (t : Int)) by rw [← hs4, cell_of_row _ _ 0 _ _ _ (heap_alloc_new _ _)]; rfl)
              have HSZ4 := hid (show H ≤ ((w3.setCell ⟨gl, t, none⟩ (.int .i64 (z - 1))).alloc (.cells #[.int .i64 (t : Int)] 3)).heap.size by rw [World.size_alloc, hs4]; omega)
              clear hz hz0
              go_wp2_with (at_builtin; refine wpList_append_one rfl (.tmp 59) (.tmp 61) 24 rfl H 3 (.int .i64 0) 8 Try.underlying24 Try.info_int rfl _ _ _ rfl (HOO4.out.alloc _) _ (.int .i64 (t : Nat)) rfl HNEW.out rfl (by omega) (by omega) HSZ4.out ?_)
              intro v5 w5 hown5 hgrow5
              rw [ownBlock_slice] at hgrow5
              obtain ⟨a5, c5, rfl, _⟩ := own_shape hown5
              have HO5 := hid (show w5.ownsRow H 3 1 (.slice a5 (m + 1) c5) (m + 1) (ints (os ++ [(t : Int)])) from by
                have e : ints (os ++ [(t : Int)]) = ints os ++ [.int .i64 (t : Int)] := by simp
                rw [e]; exact hown5)
              have HOS5 := hid (show (os ++ [(t : Int)]).length = m + 1 by rw [List.length_append, HOS.out]; rfl)
              have HOL5 := hid (own_kept (HST.out.alloc _) hgrow5 (fun b hb e => by
                have := HOB.out b e.symm
                simp [blk] at hb
                omega))
              have HR5 := hid ((rdr_alloc HR4.out _).kept hgrow5 (fun b hb => by have := HOB.out b hb; omega))
              have HG5 := hid (grown_trans (grown_alloc HG4.out _) hgrow5 (fun b hb => .inr (by have := HOB.out b hb; omega)))
              have hs5 := hgrow5.size
              have HSUM5 := hid (show (ls.set t (z - 1)).sum = A - ((m + 1 : Nat) : Int) by rw [HSUM4.out, HSUM.out]; omega)
              clear hown5 hgrow5
              go_wp2_with fail
              go_roundw
              case rel => exact ⟨m + 1, q + 1, ls.set t (z - 1), os ++ [(t : Int)], by omega, by omega, by simp at hs5; omega, HOS5, HLS4, HSUM5, HBD4, HO5, HOL5, HR5, HG5⟩
              case measure => simp [slLen]; omega
        · have hm21 : m ≤ 21 := by omega
          go_wp2_with fail
          refine (HPK.out _ _ _ HRX.out (by omega) (by omega)).mono ?_
          rintro e w3 ⟨y, rfl, _, _, hr3, hg3⟩
          have HR3 := hid hr3
          have HG3 := hid (grown_trans HGX.out hg3 (fun k hk => .inl hk.symm))
          have HOO3 := hid (own_kept_g HOO.out hg3 (by omega))
          have hs3 := hg3.size
          have HNE := hid (show ∀ b, blk ao = some b → b ≠ g from fun b hb e => by have := HOB.out b hb; omega)
          clear hr3 hg3
          by_cases y0 : y = 0
          · subst y0
            go_wp2_with fail
            refine (numLit _ _ _ _ [0, 3, -1] HR3.out (by omega) (by decide) (by decide)).mono ?_
            rintro e w4 ⟨z, rfl, _, hr4, hg4⟩
            have HR4 := hid hr4
            have HG4 := hid (grown_trans HG3.out hg4 (fun k hk => .inl hk.symm))
            have HOO4 := hid (own_kept_g HOO3.out hg4 (by omega))
            have hs4 := hg4.size
            clear hr4 hg4
            go_wp2_with (at_builtin; refine wpList_append_one rfl (.tmp 67) (.tmp 71) 24 rfl H 3 (.int .i64 0) 8 Try.underlying24 Try.info_int rfl _ _ _ rfl (HOO4.out.alloc _) _ (.int .i64 z) rfl (by simp) rfl (by omega) (by omega) (by simp; omega) ?_)
            intro v5 w5 hown5 hgrow5
            rw [ownBlock_slice] at hgrow5
            obtain ⟨a5, c5, rfl, _⟩ := own_shape hown5
            have HO5 := hid (show w5.ownsRow H 3 1 (.slice a5 (m + 1) c5) (m + 1) (ints (os ++ [z])) from by
              have e : ints (os ++ [z]) = ints os ++ [.int .i64 z] := by simp
              rw [e]; exact hown5)
            have HOS5 := hid (show (os ++ [z]).length = m + 1 by rw [List.length_append, HOS.out]; rfl)
            have HR5 := hid ((rdr_alloc HR4.out _).kept hgrow5 (fun b hb => by have := HOB.out b hb; omega))
            have HG5 := hid (grown_trans (grown_alloc HG4.out _) hgrow5 (fun b hb => .inr (by have := HOB.out b hb; omega)))
            clear hown5 hgrow5
            go_wp2_with fail
            go_ret
            exact DrawnS.of HOS5.out (Rd.own HO5.out) (fun b hb e => by have := own_blk HO5.out b hb; omega) (by omega) HR5.out (by omega) HG5.out
          have n0 : (y == 0) = false := by simpa using y0
          by_cases y1 : y = 1
          · subst y1
            by_cases hm0 : m = 0
            · subst hm0
              go_wp2_with fail
              go_ret
              exact DrawnS.of HOS.out (Rd.own HOO3.out) HNE.out (by omega) HR3.out (by omega) HG3.out
            · have hm0' : (0 : Int) < (m : Int) := by omega
              obtain ⟨G, rfl, hG1, hG2⟩ := own_some HOO3.out (by omega)
              have hcm := own_cap HOO3.out
              have HCM := hid hcm
              have HT5 := hid (show os.tail.length = m - 1 by rw [List.length_tail, HOS.out])
              have HRT := hid (rd_tail (Rd.own HOO3.out))
              have hc1 : (1 : Int) ≤ co := by omega
              by_cases hc2 : co = 1
              · have hm1 : m = 1 := by omega
                have HE := hid (show os.tail = [] from List.eq_nil_of_length_eq_zero (by rw [HT5.out]; omega))
                subst hc2
                subst hm1
                go_wp2_with fail
                go_ret
                refine DrawnS.of (os := []) rfl (.inl rfl) (fun b hb e => ?_) (by omega) HR3.out (by omega) HG3.out
                simp only [blk, Option.some.injEq] at hb
                omega
              · go_wp2_with fail
                go_ret
                exact DrawnS.of HT5.out HRT.out (fun b hb e => by simp only [blk, Option.some.injEq] at hb; omega) (by omega) HR3.out (by omega) HG3.out
          have n1 : (y == 1) = false := by simpa using y1
          go_wp2_with fail
          go_ret
          exact DrawnS.of HOS.out (Rd.own HOO3.out) HNE.out (by omega) HR3.out (by omega) HG3.out
/-- A drawn program and a drawn row of numbers. -/
def DrawnPS (w w' : World) (e : Ending) : Prop :=
  ∃ (p : Prg) (os : List Int) (a : Option Addr) (cap : Nat) (a' : Option Addr) (cap' : Nat), e = .returned (.tuple #[.slice a p.length cap, .slice a' os.length cap']) ∧ RdP w' a p ∧ Rd w' a' (ints os) ∧ sizeP p ≤ 100 ∧ os.length ≤ 100 ∧ Below w.heap.size w w'

set_option maxRecDepth 100000 in
set_option maxHeartbeats 1600000 in
theorem drawRS_c (w : World) (a : Option Addr) (cap : Nat) (bs : List Int) (h : Rd w a (u8s bs)) (hwf : ∀ x ∈ bs, 0 ≤ x ∧ x ≤ 255) (hl : bs.length ≤ 1048576) (hcap : bs.length ≤ cap) (hcm : cap ≤ 9223372036854775807) :
    Calls Try.prog 4 #[.slice a bs.length cap] w fun e w' => DrawnPS w w' e := by
  have HOP := hid (open_c w a cap bs h hwf hl hcap hcm)
  have HDR := hid (fun w (g q : Nat) (bs : List Int) (h : Rdr w g bs q) (hq : q ≤ 800000) => l1Draw_c w g bs q h hq)
  have HMU := hid (fun w (g q : Nat) (bs : List Int) a cap P (h : Rdr w g bs q) (hq : q ≤ 800000) hP hs => l1Mutate_c w g bs q a cap P h hq hP hs)
  have HSC := hid (fun w (g q : Nat) (bs : List Int) a cap P (h : Rdr w g bs q) (hq : q ≤ 800000) hP hv => l3Schedule_c w g bs q a cap P h hq hP hv)
  clear h hwf
  go_enter Try.func4, Try.ntmps4
  go_wp2_with fail
  refine HOP.out.mono ?_
  rintro e w1 ⟨bs', rfl, hr1, hb1⟩
  have HR1 := hid hr1
  have HB1 := hid hb1
  have hlt1 := hr1.lt
  clear hr1 hb1
  go_wp2_with fail
  refine (HDR.out _ _ _ _ HR1.out (by omega)).mono ?_
  rintro e w3 ⟨P, a3, c3, q3, rfl, hc3, ha3, hv3, hr3, hq3, hg3⟩
  have HR3 := hid hr3
  have HA3 := hid ha3
  have HV3 := hid hv3
  have HZ3 := hid (shape_size (valid_of hv3).toShape)
  have HB3 := hid (below_grown HB1.out hg3 (Nat.le_refl _) (by omega))
  have hs3 := hg3.size
  clear hr3 ha3 hg3 hv3
  go_wp2_with fail
  refine (HMU.out _ _ _ _ _ _ _ HR3.out (by omega) HA3.out (by have := HZ3.out; omega)).mono ?_
  rintro e w5 ⟨P5, a5, c5, q5, rfl, hc5, ha5, hz5, hr5, hq5, hg5⟩
  have HA5 := hid ha5
  have HR5 := hid hr5
  have HZ5 := hid hz5
  have HP5 := hid (HA3.out.kept hg5)
  have HB5 := hid (below_grown HB3.out hg5 (Nat.le_refl _) (by omega))
  have hs5 := hg5.size
  clear hr5 ha5 hz5 hg5
  go_wp2_with fail
  refine (HSC.out _ _ _ _ _ _ _ HR5.out (by omega) HP5.out.rd HV3.out).mono ?_
  rintro e w6 ⟨os, a6, c6, q6, rfl, hrd6, hne6, hl6, hr6, hq6, hg6⟩
  have HO6 := hid hrd6
  have HA6 := hid (HA5.out.kept hg6)
  have HB6 := hid (below_grown HB5.out hg6 (Nat.le_refl _) (by omega))
  clear hr6 hrd6 hg6 hne6
  go_wp2
  go_ret2
  exact ⟨P5, os, a5, c5, a6, c6, rfl, HA6.out.rd, HO6.out, by have := HZ3.out; have := HZ5.out; omega, hl6, HB6.out⟩
end Go.Proofs.Ytppocbkbkiokdaa
