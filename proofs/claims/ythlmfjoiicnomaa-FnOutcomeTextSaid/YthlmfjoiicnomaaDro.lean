/-
  PROVED HERE: what spec.l3Draw, DrawOutcomeValid, DrawFormatOutcome do. CONDITIONS: as each theorem states.
-/
import Derived.Test.YthlmfjoiicnomaaSqq
import Derived.Test.YthlmfjoiicnomaaDrp
namespace Go.Proofs.Ythlmfjoiicnomaa
open Go.RowKit
set_option linter.unusedVariables false
set_option linter.unusedSimpArgs false

/-- A row of numbers of the call's own, beside the source. -/
structure DoW (w0 wx : World) (g : Nat) (bs : List Int) (q : Nat) (v : Value) (n : Nat) (os : List Int) : Prop where
  rdr : Rdr wx g bs q
  own : wx.ownsRow w0.heap.size 3 1 v n (ints os)
  gr : w0.grownBy wx (some g)
  gw : g < w0.heap.size
section
variable {w0 wx wy : World} {g : Nat} {bs : List Int} {q q' : Nat} {v v' : Value} {n : Nat} {os : List Int}
theorem DoW.below (h : DoW w0 wx g bs q v n os) (hb : Below wx.heap.size wx wy) : DoW w0 wy g bs q v n os :=
  ⟨h.rdr.below hb, own_below h.own hb, grown_trans h.gr (grown_below hb none) (fun k e => by cases e), h.gw⟩
theorem DoW.pick (h : DoW w0 wx g bs q v n os) (hr : Rdr wy g bs q') (hg : wx.grownBy wy (some g)) : DoW w0 wy g bs q' v n os :=
  ⟨hr, own_rdr h.rdr h.own hg, grown_trans h.gr hg (fun k hk => .inl hk.symm), h.gw⟩
theorem grown_cell (w : World) (b j : Nat) (x : Value) : w.grownBy (w.setCell ⟨b, j, none⟩ x) (some b) := by
  have hk := Keeps.setCell w ⟨b, j, none⟩ x
  exact ⟨hk.os, hk.tape, hk.output, hk.size, fun i hi hne => hk.block i hi (fun e => hne (by rw [e]))⟩
theorem DoW.set {b c : Nat} (h : DoW w0 wx g bs q (.slice (some ⟨b, 0, none⟩) n c) n os) (j : Nat) (z : Int) : DoW w0 (wx.setCell ⟨b, j, none⟩ (.int .i64 z)) g bs q (.slice (some ⟨b, 0, none⟩) n c) n (os.set j z) := by
  have hb := own_blk h.own b rfl
  have hg := h.gw
  have hgr := grown_cell wx b j (.int .i64 z)
  refine ⟨h.rdr.kept hgr (fun k e => by cases e; omega), ?_, grown_trans h.gr hgr (fun k e => by cases e; exact .inr hb.1), hg⟩
  have := (h.own.stored j (.int .i64 z)).1
  have e : (ints os).set j (.int .i64 z) = ints (os.set j z) := by simp [ints, List.map_set]
  rw [e] at this
  simpa using this
theorem DoW.app (h : DoW w0 wx g bs q v n os) {o : Obj} {x : Int} (hown : wy.ownsRow w0.heap.size 3 1 v' (n + 1) (ints os ++ [.int .i64 x])) (hg : (wx.alloc o).grownBy wy v.ownBlock) : DoW w0 wy g bs q v' (n + 1) (os ++ [x]) := by
  have hb : Below wx.heap.size wx (wx.alloc o) := (Below.refl _ _).alloc (Nat.le_refl _) o
  have h' := h.below hb
  have hgw := h.gw
  obtain ⟨a, c, rfl, _⟩ := own_shape h'.own
  have hblk := own_blk h'.own
  rw [ownBlock_slice] at hg
  refine ⟨h'.rdr.kept hg (fun k e => by have := (hblk k e).1; omega), ?_, grown_trans h'.gr hg (fun k e => .inr (hblk k e).1), hgw⟩
  have e : ints (os ++ [x]) = ints os ++ [.int .i64 x] := by simp
  rw [e]
  exact hown
end
/-- A drawn program and a drawn outcome. -/
def DrawnPO (w w' : World) (g : Nat) (bs : List Int) (q0 : Nat) (e : Ending) : Prop :=
  ∃ (p : Prg) (os : List Int) (a : Option Addr) (cap : Nat) (a' : Option Addr) (cap' q : Nat), e = .returned (.tuple #[.slice a p.length cap, .slice a' os.length cap']) ∧ p.length ≤ cap ∧ AvP w' g a p ∧ progValid p = true ∧ Rd w' a' (ints os) ∧ (∀ b, blk a' = some b → b ≠ g) ∧ os.length ≤ 200 ∧ os.length ≤ cap' ∧ Rdr w' g bs q ∧ q ≤ q0 ∧ w.grownBy w' (some g)
theorem DrawnPO.of {w w0 wx : World} {g : Nat} {bs : List Int} {q q0 : Nat} {a a' : Option Addr} {cap cap' m n : Nat} {p : Prg} {os : List Int} (h : DoW w0 wx g bs q (.slice a' m cap') m os) (hn : p.length = n) (hc : p.length ≤ cap) (ha : AvP w0 g a p) (hv : progValid p = true) (hm : m ≤ 200) (hq : q ≤ q0) (hg : w.grownBy w0 (some g)) : DrawnPO w wx g bs q0 (.returned (.tuple #[.slice a n cap, .slice a' m cap'])) := by
  have hl := h.own.1
  have hl : os.length = m := by simpa using hl
  subst hl
  subst hn
  exact ⟨p, os, a, cap, a', cap', q, rfl, hc, ha.kept h.gr, hv, Rd.own h.own, fun b hb e => by have := (own_blk h.own b hb).1; have := h.gw; omega, hm, own_cap h.own, h.rdr, hq, grown_trans hg h.gr (fun k e => .inl e.symm)⟩
theorem rd_oneI (w : World) (x : Int) (e : TypeId) : Rd (w.alloc (.cells #[.int .i64 x] e)) (some ⟨w.heap.size, 0, none⟩) [.int .i64 x] :=
  .inr ⟨_, 0, rfl, by simp, fun j u hj => by
    rw [Nat.zero_add, cell_of_row _ _ j _ _ _ (heap_alloc_new w _)]
    match j, hj with
    | 0, hj => simpa using hj
    | j + 1, hj => simp at hj⟩
theorem run_fieldSearch (w : World) (x y : Value) : (Instr.field 132 (.agg #[x, y]) 1).run Try.prog w = .ok y w := by kernel_rfl
set_option maxRecDepth 100000 in
set_option maxHeartbeats 3200000 in
theorem l3Draw_c (w : World) (g : Nat) (bs : List Int) (q0 : Nat) (h : Rdr w g bs q0) (hq : q0 ≤ 700000) :
    Calls Try.prog 55 #[.pointer (some ⟨g, 0, none⟩)] w fun e w' => DrawnPO w w' g bs (q0 + 200) e := by
  have hglt := h.lt
  have HPK := hid (fun w (q : Nat) (n : Int) (h : Rdr w g bs q) (hq : q ≤ 1000000) (hn : n ≤ 1000000000) => pick_c w g bs q n h hq hn)
  have HDR := hid (l1Draw_c w g bs q0 h (by omega))
  have HSQ := hid (fun w a cap p hp hv => l3Seq_c w a cap p hp hv)
  clear h
  go_enter Try.func55, Try.ntmps55
  go_wp2_with fail
  refine HDR.out.mono ?_
  rintro e w3 ⟨P, a3, c3, q3, rfl, hc3, ha3, hv3, hr3, hq3, hg3⟩
  have HR3 := hid hr3
  have HA3 := hid ha3
  have HV3 := hid hv3
  have HG3 := hid hg3
  have hs3 := hg3.size
  have hn3 := (valid_of hv3).toShape.len
  have hp3 := (valid_of hv3).pos
  clear hr3 ha3 hv3 hg3
  go_wp2_with fail
  refine (HSQ.out w3 _ _ P HA3.out.rd HV3.out).mono ?_
  rintro e w4 ⟨cnt, oa, oc, outs, rfl, hx4, hpos4, hfew4, hlen4, hb4⟩
  have HX4 := hid hx4
  have HL4 := hid hlen4
  have HB4 := hid hb4
  have hs4 := hb4.size
  clear hx4 hlen4 hb4
  have hb5 : Below w4.heap.size w4 (w4.alloc (.cells #[] 3)) := (Below.refl _ _).alloc (Nat.le_refl _) _
  have HD5 := hid (show DoW w3 (w4.alloc (.cells #[] 3)) g bs q3 (.slice (some ⟨w4.heap.size, 0, none⟩) 0 0) 0 [] from
    ⟨(HR3.out.below HB4.out).below hb5, own_lit0 w4 w3.heap.size 3 1 hs4, grown_trans (grown_below HB4.out (some g)) (grown_below hb5 none) (fun k e => by cases e), by omega⟩)
  have HX5 := hid (HX4.out.below hb5)
  obtain ⟨n4, hn4⟩ : ∃ n4, n4 = outs.length := ⟨_, rfl⟩
  rw [← hn4] at hpos4 hfew4 ⊢
  have HN4 := hid hn4
  have hfld := run_fieldSearch w4 (.int .i64 cnt) (.slice (some ⟨oa, 0, none⟩) n4 oc)
  clear hb5 hn4
  go_wp2_with fail
  refine (HPK.out _ _ _ HD5.out.rdr (by omega) (by omega)).mono ?_
  rintro e w6 ⟨x, rfl, hx0, hx1, hr6, hg6⟩
  obtain ⟨k, rfl⟩ : ∃ k : Nat, x = k := ⟨x.toNat, by omega⟩
  have hkn : k < n4 := by omega
  have HD6 := hid (HD5.out.pick hr6 hg6)
  have HX6 := hid (HX5.out.turn (F' := fun b => b < w3.heap.size) (Keeps.of_grown hg6 fun j e => by cases e; show g < w3.heap.size; omega) (fun b hb => .inl hb))
  obtain ⟨xs, hxs⟩ : ∃ xs, outs[k]? = some xs := ⟨_, List.getElem?_eq_getElem (by rw [← HN4.out]; exact hkn)⟩
  obtain ⟨b6, off6, r6, c6, hab, hbl, hcell, hrd6, _⟩ := HX6.out.at' hxs
  cases hab
  rw [Nat.zero_add] at hcell
  have hxl := HL4.out xs (List.mem_of_getElem? hxs)
  have HXL := hid hxl
  have HRD6 := hid hrd6
  rw [hxl] at hcell
  obtain ⟨L, hL⟩ : ∃ L, L = P.length * 3 + 3 := ⟨_, rfl⟩
  rw [← hL] at hcell HXL
  have hL12 : L ≤ 12 := by omega
  have hL3 : 3 ≤ L := by omega
  have hkn' : (k : Int) < (n4 : Int) := by omega
  have hs6 := HD6.out.gr.size
  clear hr6 hg6 hxs hrd6 hL hxl HX4 HX5 HD5
  go_wp2_with (at_builtin; refine wpList_append_rd rfl (.tmp 12) (.tmp 19) 24 rfl w3.heap.size 3 (.int .i64 0) 1 8 Try.underlying24 Try.info_int rfl (by decide) _ _ _ rfl HD6.out.own r6 L c6 (ints xs) rfl HRD6.out (by rw [List.length_map, HXL.out, Nat.mul_one]) (ints_one _ _) (by omega) (by decide) hs6 ?_)
  intro v7 w7 hown7 hgrow7 _
  have hown7' : w7.ownsRow w3.heap.size 3 1 v7 L (ints xs) := hown7
  obtain ⟨a7, c7, rfl, _⟩ := own_shape hown7'
  obtain ⟨b7, rfl, _, _⟩ := own_some hown7' (by omega)
  rw [ownBlock_slice] at hgrow7
  have HD7 := hid (show DoW w3 w7 g bs (q3 + 1) (.slice (some ⟨b7, 0, none⟩) L c7) L xs from
    ⟨HD6.out.rdr.kept hgrow7 (fun k e => by have := (own_blk HD6.out.own k e).1; omega), hown7', grown_trans HD6.out.gr hgrow7 (fun k e => .inr (own_blk HD6.out.own k e).1), by omega⟩)
  clear hown7 hown7' hgrow7 HD6 HX6 HRD6 hcell hbl
  go_wp2_with fail
  refine (HPK.out _ _ _ HD7.out.rdr (by omega) (by omega)).mono ?_
  rintro e w8 ⟨y, rfl, _, _, hr8, hg8⟩
  have HD8 := hid (HD7.out.pick hr8 hg8)
  clear hr8 hg8 HD7
  by_cases y0 : y = 0
  · subst y0
    go_wp2_with fail
    refine (HPK.out _ _ _ HD8.out.rdr (by omega) (by omega)).mono ?_
    rintro e w9 ⟨z, rfl, hz0, hz1, hr9, hg9⟩
    obtain ⟨j, rfl⟩ : ∃ j : Nat, z = j := ⟨z.toNat, by omega⟩
    have hjL : (j : Int) < (L : Int) := by omega
    have HD9 := hid (HD8.out.pick hr9 hg9)
    clear hr9 hg9 hz0 hz1
    go_wp2_with fail
    refine (numLit _ _ _ _ [1, 0, 3, 4, -1] HD9.out.rdr (by omega) (by decide) (by decide)).mono ?_
    rintro e w10 ⟨z, rfl, _, hr10, hg10⟩
    have HD10 := hid (HD9.out.pick hr10 hg10)
    obtain ⟨u, hu1, hu2⟩ := own_intAt HD10.out.own j (by rw [HXL.out]; omega)
    have HD11 := hid (HD10.out.set j z)
    clear hr10 hg10
    go_wp2_with fail
    go_ret2
    exact DrawnPO.of HD11.out (by first | rfl | assumption) hc3 HA3.out HV3.out (by omega) (by omega) HG3.out
  · have y0' : (y == 0) = false := by simpa using y0
    by_cases y1 : y = 1
    · subst y1
      go_wp2_with fail
      refine (HPK.out _ _ _ HD8.out.rdr (by omega) (by omega)).mono ?_
      rintro e w9 ⟨z, rfl, hz0, hz1, hr9, hg9⟩
      have HD9 := hid (HD8.out.pick hr9 hg9)
      clear hr9 hg9 hz0 hz1
      by_cases z0 : z = 0
      · subst z0
        have hs9 := HD9.out.gr.size
        have HO9 := hid (own_below HD9.out.own ((Below.refl _ _).alloc (Nat.le_refl _) (.cells #[.int .i64 0] 3)))
        go_wp2_with (at_builtin; refine wpList_append_rd rfl (.tmp 39) (.tmp 40) 24 rfl w3.heap.size 3 (.int .i64 0) 1 8 Try.underlying24 Try.info_int rfl (by decide) _ _ _ rfl HO9.out _ 1 1 [.int .i64 0] rfl (rd_oneI w9 0 _) rfl (by simp [Value.oneCell']) (by omega) (by decide) (by simp; omega) ?_)
        intro v10 w10 hown10 hgrow10 _
        have HD10 := hid (HD9.out.app hown10 hgrow10)
        obtain ⟨a10, c10, rfl, _⟩ := own_shape hown10
        clear hown10 hgrow10
        go_wp2_with fail
        go_ret2
        exact DrawnPO.of HD10.out (by first | rfl | assumption) hc3 HA3.out HV3.out (by omega) (by omega) HG3.out
      · have z0' : (z == 0) = false := by simpa using z0
        go_wp2_with fail
        go_ret2
        exact DrawnPO.of HD9.out (by first | rfl | assumption) hc3 HA3.out HV3.out (by omega) (by omega) HG3.out
    · have y1' : (y == 1) = false := by simpa using y1
      go_wp2_with fail
      go_ret2
      exact DrawnPO.of HD8.out (by first | rfl | assumption) hc3 HA3.out HV3.out (by omega) (by omega) HG3.out

/-- A drawn program and a drawn row of numbers. -/
def DrawnPR (w w' : World) (e : Ending) : Prop :=
  ∃ (p : Prg) (os : List Int) (a : Option Addr) (cap : Nat) (a' : Option Addr) (cap' : Nat), e = .returned (.tuple #[.slice a p.length cap, .slice a' os.length cap']) ∧ RdP w' a p ∧ Rd w' a' (ints os) ∧ sizeP p ≤ 100 ∧ os.length ≤ 200 ∧ os.length ≤ cap' ∧ Below w.heap.size w w'
set_option maxRecDepth 100000 in
set_option maxHeartbeats 1600000 in
theorem drawOV_c (w : World) (a : Option Addr) (cap : Nat) (bs : List Int) (h : Rd w a (u8s bs)) (hwf : ∀ x ∈ bs, 0 ≤ x ∧ x ≤ 255) (hl : bs.length ≤ 1048576) (hcap : bs.length ≤ cap) (hcm : cap ≤ 9223372036854775807) :
    Calls Try.prog 49 #[.slice a bs.length cap] w fun e w' => DrawnPR w w' e := by
  have HOP := hid (open_c w a cap bs h hwf hl hcap hcm)
  have HDR := hid (fun w (g q : Nat) (bs : List Int) (h : Rdr w g bs q) (hq : q ≤ 700000) => l3Draw_c w g bs q h hq)
  have HMU := hid (fun w (g q : Nat) (bs : List Int) a cap P (h : Rdr w g bs q) (hq : q ≤ 800000) hP hs => l1Mutate_c w g bs q a cap P h hq hP hs)
  clear h hwf
  go_enter Try.func49, Try.ntmps49
  go_wp2_with fail
  refine HOP.out.mono ?_
  rintro e w1 ⟨bs', rfl, hr1, hb1⟩
  have HR1 := hid hr1
  have HB1 := hid hb1
  have hlt1 := hr1.lt
  clear hr1 hb1
  go_wp2_with fail
  refine (HDR.out _ _ _ _ HR1.out (by omega)).mono ?_
  rintro e w3 ⟨P, os, a3, c3, a5, c5, q3, rfl, hc3, ha3, hv3, hrd3, hne3, hl3, hlc3, hr3, hq3, hg3⟩
  have HR3 := hid hr3
  have HA3 := hid ha3
  have HO3 := hid hrd3
  have HNE3 := hid hne3
  have HZ3 := hid (shape_size (valid_of hv3).toShape)
  have HB3 := hid (below_grown HB1.out hg3 (Nat.le_refl _) (by omega))
  have hs3 := hg3.size
  clear hr3 ha3 hg3 hv3 hrd3 hne3
  go_wp2_with fail
  refine (HMU.out _ _ _ _ _ _ _ HR3.out (by omega) HA3.out (by have := HZ3.out; omega)).mono ?_
  rintro e w6 ⟨P6, a6, c6, q6, rfl, hc6, ha6, hz6, hr6, hq6, hg6⟩
  have HA6 := hid ha6
  have HZ6 := hid hz6
  have HO6 := hid (HO3.out.keeps (S := fun b => some w.heap.size = some b) (Keeps.of_grown hg6 fun k hk => hk) (fun b hb e => HNE3.out b hb (Option.some.inj e).symm))
  have HB6 := hid (below_grown HB3.out hg6 (Nat.le_refl _) (by omega))
  clear hr6 ha6 hz6 hg6
  go_wp2
  go_ret2
  exact ⟨P6, os, a6, c6, a5, c5, rfl, HA6.out.rd, HO6.out, by have := HZ3.out; have := HZ6.out; omega, hl3, hlc3, HB6.out⟩
theorem drawFO_c (w : World) (a : Option Addr) (cap : Nat) (bs : List Int) (h : Rd w a (u8s bs)) (hwf : ∀ x ∈ bs, 0 ≤ x ∧ x ≤ 255) (hl : bs.length ≤ 1048576) (hcap : bs.length ≤ cap) (hcm : cap ≤ 9223372036854775807) :
    Calls Try.prog 24 #[.slice a bs.length cap] w fun e w' => DrawnPR w w' e := by
  have C := hid (drawOV_c w a cap bs h hwf hl hcap hcm)
  clear h hwf
  go_enter Try.func24, Try.ntmps24
  go_wp2_with fail
  refine C.out.mono ?_
  rintro e w1 ⟨p, os, a1, c1, a2, c2, rfl, h1, h2, h3, h4, h4c, h5⟩
  have H1 := hid (And.intro h1 (And.intro h2 h5))
  clear h1 h2 h5
  go_wp2
  go_ret2
  exact ⟨p, os, a1, c1, a2, c2, rfl, H1.out.1, H1.out.2.1, h3, h4, h4c, H1.out.2.2⟩
end Go.Proofs.Ythlmfjoiicnomaa
