/-
  PROVED HERE: what spec.l5Insert does. CONDITIONS: as each theorem states.
-/
import Derived.Test.YthlmfjoiicnomaaVk
namespace Go.Proofs.Ythlmfjoiicnomaa
open Go.RowKit
set_option linter.unusedVariables false
set_option linter.unusedSimpArgs false

theorem Try.info_msg : (Try.prog.info? 117).map (fun i => (i.zero, i.size, i.bytes)) = some (some (.agg #[.int .i64 0, .bool false, .slice none 0 0]), 3, 40) := by kernel_rfl
theorem rd_takeV {w : World} {x : Option Addr} {cs : List Value} (h : Rd w x cs) (k : Nat) : Rd w x (cs.take k) := by
  rcases h with rfl | ⟨b, off, rfl, hlt, hc⟩
  · exact .inl (by simp)
  · refine .inr ⟨b, off, rfl, hlt, fun j u hj => hc j u ?_⟩
    rw [List.getElem?_take] at hj
    split at hj
    · exact hj
    · cases hj
theorem rd_dropV {w : World} {b off : Nat} {cs : List Value} (h : Rd w (some ⟨b, off, none⟩) cs) (k : Nat) : Rd w (some ⟨b, off + k, none⟩) (cs.drop k) := by
  rcases h with rfl | ⟨b', off', e, hlt, hc⟩
  · exact .inl (by simp)
  · cases e
    refine .inr ⟨b, off + k, rfl, hlt, fun j u hj => ?_⟩
    rw [List.getElem?_drop] at hj
    rw [Nat.add_assoc]
    exact hc _ u hj
theorem rd_new3 (w : World) (u0 u1 u2 : Value) (e : TypeId) : Rd (w.alloc (.cells #[u0, u1, u2] e)) (some ⟨w.heap.size, 0, none⟩) [u0, u1, u2] :=
  .inr ⟨_, 0, rfl, by simp, fun j u hj => by
    rw [Nat.zero_add, cell_of_row _ _ j _ _ _ (heap_alloc_new w _)]
    match j, hj with
    | 0, hj => simpa using hj
    | 1, hj => simpa using hj
    | 2, hj => simpa using hj
    | j + 3, hj => simp at hj⟩
theorem own_casI {w : World} {base e size n n' : Nat} {v : Value} {cs cs' : List Value} (h : w.ownsRow base e size v n cs) (hn : n' = n) (hc : cs' = cs) : w.ownsRow base e size v n' cs' := by
  subst hn hc
  exact h
/-- The blocks that l5Insert turns. -/
def InS (q : Sp) (y : Ly) (c : Ct) (b : Nat) : Prop := (∃ ix, c.dom ix ∧ blk (y.I ix).1 = some b) ∨ blk q.a3 = some b
theorem OwC.notS {w : World} {base : Nat} {q : Sp} {y : Ly} {c : Ct} {n b : Nat} {cs : Array Value} {T : TypeId} (h : OwC w base q y c n) (hb : w.heap[b]? = some (.cells cs T (0, 0))) (h1 : T ≠ 3) (h2 : T ≠ 118) : ¬ InS q y c b := by
  rintro (⟨ix, hx, e⟩ | e)
  · exact (h.kind hb).1 h1 ix hx e
  · exact (h.kind hb).2.2.1 h2 e
/-- The last region of l5Insert: the row grows by what is behind the place. -/
structure InI (B : Nat) (w18 : World) (N : Nat) (cs : List Value) (S : Nat → Bool) (ρ : Nat → Value) (wx : World) : Prop where
  k : Keeps (fun b => B < b) w18 wx
  p0 : S 11 = false → Below w18.heap.size w18 wx
  p1 : S 11 = true → ∃ g c, ρ 11 = .slice (some ⟨g, 0, none⟩) (N + 1) c ∧ wx.ownsRow (B + 1) 117 3 (.slice (some ⟨g, 0, none⟩) (N + 1) c) (N + 1) cs
structure InsOk (s : Vs) (t loc k : Nat) : Prop where
  ll : s.list.length = 3
  ht : t < s.view.length
  nv : s.view.length ≤ 3
  hl : loc < 3
  hk : k ≤ (row5 s loc).length
  N : ∀ l, l < 3 → 0 < (row5 s l).length ∧ (row5 s l).length ≤ 100
  V : ∀ i, i < s.view.length → ∃ x, (vw s i)[loc]? = some x ∧ 0 ≤ x ∧ x ≤ 1000
  M : ∀ l j, l < 3 → j < (row5 s l).length → ∃ x, (((row5 s l).getD j msZ).view)[loc]? = some x ∧ 0 ≤ x ∧ x ≤ 1000
set_option maxRecDepth 100000 in
set_option maxHeartbeats 6400000 in
theorem l5Insert_c (w : World) (base : Nat) (q : Sp) (y : Ly) (s : Vs) (t loc k : Nat) (val : Int) (h : OwC w base q y (ct s) (ct s).nl) (ho : InsOk s t loc k) (hbase : base ≤ w.heap.size) :
    Calls Try.prog 89 #[q.v5 s, .int .i64 t, .int .i64 loc, .int .i64 k, .int .i64 val] w fun e w' => e = .returned (.tuple #[]) ∧ FrC w' base q (ct (ins5 s t loc k val)) ∧ Keeps (InS q y (ct s)) w w' := by
  obtain ⟨hll, ht, hnv3, hl, hk, hN, hV, hM⟩ := ho
  have HINS := hid (ins_ct (val := val) hll hl hk ht)
  obtain ⟨c, hc⟩ : ∃ c, c = ct s := ⟨_, rfl⟩
  have HC := hid hc
  have hcnv : c.nv = s.view.length := by rw [hc]; rfl
  have hcnl : c.nl = 3 := by rw [hc]; exact hll
  have HCN := hid (show ∀ l, c.N l = (row5 s l).length from fun l => by rw [hc]; rfl)
  have HCV := hid (show ∀ i, c.X (1, i) = vw s i from fun i => by rw [hc]; rfl)
  have HCM := hid (show ∀ l j, c.X (l + 2, j) = ((row5 s l).getD j msZ).view from fun l j => by rw [hc]; rfl)
  rw [← hc] at h HINS ⊢
  rw [hcnl] at h
  obtain ⟨vb, hvb, hvbb, hvbl⟩ := h.vaddr (by omega)
  obtain ⟨lb, hlb, hlbb, hlbl⟩ := h.laddr (by omega)
  have HVB := hid hvb
  have HLB := hid hlb
  have HIA := hid (fun ix (hx : c.dom ix) (h1 : 1 ≤ ix.1) => show ∃ g, (y.I ix).1 = some ⟨g, 0, none⟩ ∧ base ≤ g ∧ g < w.heap.size from h.iaddr hx (by rw [h.len ix hx h1]; decide))
  have HRA := hid (fun l (hl : l < 3) => show ∃ g, (y.L l).1 = some ⟨g, 0, none⟩ ∧ base ≤ g ∧ g < w.heap.size from h.raddr (by omega) (by rw [HCN.out]; exact (hN l hl).1))
  have HN := hid hN
  have HV := hid hV
  have HM := hid hM
  have HCNV := hid hcnv
  have HCNL := hid hcnl
  have HLEN := hid (fun ix (hx : c.dom ix) (h1 : 1 ≤ ix.1) => h.len ix hx h1)
  unfold Sp.v5 Sp.hd5
  obtain ⟨nv, hnv⟩ : ∃ nv, nv = s.view.length := ⟨_, rfl⟩
  rw [hll, ← hnv, hvb, hlb]
  rw [← hnv] at ht hnv3 HCNV HV HINS
  obtain ⟨p0, hp0⟩ : ∃ x, x = s.st.pc.length := ⟨_, rfl⟩
  obtain ⟨p1, hp1⟩ : ∃ x, x = s.st.regs.length := ⟨_, rfl⟩
  rw [← hp0, ← hp1]
  have HB1 := hid ((Below.refl w.heap.size w).alloc (Nat.le_refl _) (.cells #[.slice q.a0 p0 q.c0, .slice q.a1 p1 q.c1, .slice (some ⟨vb, 0, none⟩) nv q.c2, .slice (some ⟨lb, 0, none⟩) 3 q.c3] 59))
  have HW1 := hid (h.below ((Below.refl w.heap.size w).alloc (Nat.le_refl _) (.cells #[.slice q.a0 p0 q.c0, .slice q.a1 p1 q.c1, .slice (some ⟨vb, 0, none⟩) nv q.c2, .slice (some ⟨lb, 0, none⟩) 3 q.c3] 59)))
  obtain ⟨w1, hw1⟩ : ∃ w1, w1 = w.alloc (.cells #[.slice q.a0 p0 q.c0, .slice q.a1 p1 q.c1, .slice (some ⟨vb, 0, none⟩) nv q.c2, .slice (some ⟨lb, 0, none⟩) 3 q.c3] 59) := ⟨_, rfl⟩
  rw [← hw1] at HB1 HW1
  have hs1 : w1.heap.size = w.heap.size + 1 := by rw [hw1]; simp
  have HX1 := hid (show w1.heap[w.heap.size]? = some (.cells #[.slice q.a0 p0 q.c0, .slice q.a1 p1 q.c1, .slice (some ⟨vb, 0, none⟩) nv q.c2, .slice (some ⟨lb, 0, none⟩) 3 q.c3] 59 (0, 0)) by rw [hw1]; exact heap_alloc_new w _)
  have HNS := hid (HW1.out.notS HX1.out (by decide) (by decide))
  -- what is read of the state's box
  have HBX := hid (fun wr (hk : Keeps (InS q y c) w1 wr) => show wr.cell? ⟨w.heap.size, 2, none⟩ = some (.slice (some ⟨vb, 0, none⟩) nv q.c2) ∧ wr.cell? ⟨w.heap.size, 3, none⟩ = some (.slice (some ⟨lb, 0, none⟩) 3 q.c3) from by
    have e := (hk.block w.heap.size (by omega) HNS.out).trans HX1.out
    exact ⟨cell_of_row wr w.heap.size 2 _ _ _ e, cell_of_row wr w.heap.size 3 _ _ _ e⟩)
  have HSX := hid (fun ix (hx : c.dom ix) g (hg : (y.I ix).1 = some ⟨g, 0, none⟩) => show InS q y c g from .inl ⟨ix, hx, by rw [hg]; rfl⟩)
  clear hp0 hp1 hnv hc hll hcnv hcnl h hvb hlb hN hV hM
  go_enter Try.func89, Try.ntmps89
  go_wp2_with fail
  rw [← hw1]
  clear hw1
  go_loopw [10] (fun i wr => ∃ j : Nat, j ≤ nv ∧ i = .int .i64 j ∧ Hid (OwC wr base q y (c.bmp (P1 j) loc k) 3) ∧ Hid (Keeps (InS q y c) w1 wr)) (fun i _ => nv - (intOf i).toNat)
  case atStart => exact ⟨0, Nat.zero_le _, rfl, hid (by rw [bmp_none c loc k P1_zero]; exact HW1.out), hid (Keeps.refl _ _)⟩
  case round =>
    obtain ⟨j, hj, rfl, HO, HK⟩ := hrel
    obtain ⟨x2, x3⟩ := HBX.out wr HK.out
    by_cases hlt : j < nv
    · have hji : (j : Int) < (nv : Int) := by omega
      have hli : (loc : Int) < 3 := by omega
      have hdom : c.dom (1, j) := domV (by rw [HCNV.out]; exact hlt)
      obtain ⟨x, hx, hx0, hx1⟩ := HV.out j hlt
      rw [← HCV.out] at hx
      obtain ⟨g, hg, hgb, hgl⟩ := HIA.out (1, j) hdom (Nat.le_refl _)
      have xv := HO.out.vcell (t := j) (show j < c.nv by rw [HCNV.out]; exact hlt) HVB.out
      rw [hg] at xv
      have hX : (c.bmp (P1 j) loc k).X (1, j) = c.X (1, j) := by rw [bmp_X, if_neg (by rw [P1_self]; decide)]
      obtain ⟨xi, xf⟩ := HO.out.icell (ix := (1, j)) (j := loc) (x := x) hdom hg (by rw [hX]; exact hx)
      obtain ⟨gc, hgc⟩ : ∃ gc, gc = (y.I (1, j)).2 := ⟨_, rfl⟩
      rw [← hgc] at xv
      by_cases hkx : (k : Int) ≤ x
      · have HO2 := hid (HO.out.set (ix := (1, j)) hdom hg loc (x + 1))
        rw [bmp_yes (P1_self j) (P1_succ j) hx hkx] at HO2
        have HK2 := hid (HK.out.trans ((Keeps.setCell wr ⟨g, loc, none⟩ (.int .i64 (x + 1))).mono fun b (e : b = g) => by rw [e]; exact HSX.out (1, j) hdom g hg))
        clear hX hx hg hgc hgb hgl
        go_wp2_with fail
        refine wp_region_mix (by kernel_rfl) (by kernel_rfl) ?_
        go_wp2_with (first | (with_reducible refine wpMix_nil ?_) | (with_reducible refine wpMix_rd rfl rfl (fun K hK => ?_); go_simp; (try go_bits); refine hK _ ?_; clear hK K) | (with_reducible refine wpMix_act (o := ⟨_, .store _ _ _, _, _, _, _⟩) rfl rfl (fun K hK => ?_)))
        exact ⟨⟨j + 1, by omega, by go_num, hid (HO2.out.below (below_drewN 1 (Below.refl _ _))), hid (HK2.out.trans (Keeps.of_below (below_drewN 1 (Below.refl _ _))))⟩, by simp [intOf]; omega⟩
      · have HO2 := hid HO.out
        rw [← bmp_no (P1_succ j) hx hkx] at HO2
        clear hX hx hg hgc hgb hgl
        go_wp2_with fail
        go_roundw
        case rel => exact ⟨j + 1, by omega, by go_num, HO2, HK⟩
        case measure => simp [intOf]; omega
    · have ejn : nv = j := by omega
      subst ejn
      have HO1 := hid (show OwC wr base q y (c.bmp (P2 nv 0 0) loc k) 3 from by rw [P2_zero]; exact HO.out)
      have HK1 := hid HK.out
      clear HO HK hlt hj
      go_wp2_with fail
      clear x2 x3
      go_loopw [11] (fun i wx => ∃ i' : Nat, i' ≤ 3 ∧ i = .int .i64 i' ∧ Hid (OwC wx base q y (c.bmp (P2 nv i' 0) loc k) 3) ∧ Hid (Keeps (InS q y c) w1 wx)) (fun i _ => 3 - (intOf i).toNat)
      case atStart => exact ⟨0, by omega, rfl, HO1, HK1⟩
      case round =>
        clear HO1 HK1
        obtain ⟨i, hi, rfl, HO, HK⟩ := hrel
        obtain ⟨x2, x3⟩ := HBX.out _ HK.out
        by_cases hlt : i < 3
        · have hii : (i : Int) < 3 := by omega
          have hicl : i < c.nl := by rw [HCNL.out]; exact hlt
          obtain ⟨hn0, hn1⟩ := HN.out i hlt
          obtain ⟨N, hNe⟩ : ∃ N, N = (row5 s i).length := ⟨_, rfl⟩
          have HNE := hid (show c.N i = N from by rw [HCN.out, hNe])
          have HNR := hid hNe
          rw [← hNe] at hn0 hn1
          clear hNe
          obtain ⟨gl, hgl1, hglb, hgll⟩ := HRA.out i hlt
          have HGL := hid hgl1
          obtain ⟨lc, hlc⟩ : ∃ lc, lc = (y.L i).2 := ⟨_, rfl⟩
          have HLC := hid hlc
          clear hgl1 hlc
          go_wp2_with fail
          go_loopw [12] (fun jv wx => ∃ j : Nat, j ≤ N ∧ jv = .int .i64 j ∧ Hid (OwC wx base q y (c.bmp (P2 nv i j) loc k) 3) ∧ Hid (Keeps (InS q y c) w1 wx)) (fun jv _ => N - (intOf jv).toNat)
          case atStart => exact ⟨0, by omega, rfl, HO, HK⟩
          case round =>
            clear HO HK x2 x3
            obtain ⟨j, hj, rfl, HO, HK⟩ := hrel
            obtain ⟨x2, x3⟩ := HBX.out _ HK.out
            have xl := (HO.out.lcell (l := i) hlt HLB.out).1
            rw [HGL.out, ← HLC.out, show (c.bmp (P2 nv i j) loc k).N i = N from HNE.out] at xl
            by_cases hjN : j < N
            · have hji : (j : Int) < (N : Int) := by omega
              have hjcl : j < c.N i := by rw [HNE.out]; exact hjN
              have hdom : c.dom (i + 2, j) := domM hicl hjcl
              obtain ⟨x, hx, hx0, hx1⟩ := HM.out i j hlt (by rw [← HNR.out]; exact hjN)
              rw [← HCM.out] at hx
              obtain ⟨g, hg, hgb, hgl⟩ := HIA.out (i + 2, j) hdom (by simp)
              have xm := (HO.out.mcell (l := i) (k := j) hicl hjcl HGL.out).2.2.1
              rw [hg] at xm
              have hX : (c.bmp (P2 nv i j) loc k).X (i + 2, j) = c.X (i + 2, j) := by rw [bmp_X, if_neg (by rw [P2_self]; decide)]
              obtain ⟨xi, xf⟩ := HO.out.icell (ix := (i + 2, j)) (j := loc) (x := x) hdom hg (by rw [hX]; exact hx)
              obtain ⟨gc, hgc⟩ : ∃ gc, gc = (y.I (i + 2, j)).2 := ⟨_, rfl⟩
              rw [← hgc] at xm
              have hli : (loc : Int) < 3 := by omega
              by_cases hkx : (k : Int) ≤ x
              · have HO2 := hid (HO.out.set (ix := (i + 2, j)) hdom hg loc (x + 1))
                rw [bmp_yes (P2_self nv i j) (P2_succ nv i j) hx hkx] at HO2
                have HK2 := hid (HK.out.trans ((Keeps.setCell _ ⟨g, loc, none⟩ (.int .i64 (x + 1))).mono fun b (e : b = g) => by rw [e]; exact HSX.out (i + 2, j) hdom g hg))
                clear hX hx hg hgc hgb hgl
                go_wp2_with fail
                refine wp_region_mix (by kernel_rfl) (by kernel_rfl) ?_
                go_wp2_with (first | (with_reducible refine wpMix_nil ?_) | (with_reducible refine wpMix_rd rfl rfl (fun K hK => ?_); go_simp; (try go_bits); refine hK _ ?_; clear hK K) | (with_reducible refine wpMix_act (o := ⟨_, .store _ _ _, _, _, _, _⟩) rfl rfl (fun K hK => ?_)))
                exact ⟨⟨j + 1, by omega, by go_num, hid (HO2.out.below (below_drewN 1 (Below.refl _ _))), hid (HK2.out.trans (Keeps.of_below (below_drewN 1 (Below.refl _ _))))⟩, by simp [intOf]; omega⟩
              · have HO2 := hid HO.out
                rw [← bmp_no (P2_succ nv i j) hx hkx] at HO2
                clear hX hx hg hgc hgb hgl
                go_wp2_with fail
                go_roundw
                case rel => exact ⟨j + 1, by omega, by go_num, HO2, HK⟩
                case measure => simp [intOf]; omega
            · have ejN : N = j := by omega
              have HO2 := hid (show OwC _ base q y (c.bmp (P2 nv (i + 1) 0) loc k) 3 from by
                have h1 := HO.out
                rw [← ejN, ← HNE.out, ← HCNV.out] at h1
                have h2 := h1.congr (bmp_row c loc k i)
                rw [HCNV.out] at h2
                exact h2)
              go_wp2_with fail
              go_roundw
              case rel => exact ⟨i + 1, by omega, by go_num, HO2, HK⟩
              case measure => simp [intOf]; omega
        · have ei : i = 3 := by omega
          have HO2 := hid (show OwC _ base q y (c.bmp (P2 nv 3 0) loc k) 3 from by have h1 := HO.out; rw [ei] at h1; exact h1)
          have HK2 := hid HK.out
          have hi3 : ¬ (i : Int) < 3 := by omega
          clear HO HK
          have htc : t < c.nv := by rw [HCNV.out]; exact ht
          have hti : (t : Int) < (nv : Int) := by omega
          have hli : (loc : Int) < 3 := by omega
          obtain ⟨g, hg, hgb, hgl⟩ := HIA.out (1, t) (domV htc) (Nat.le_refl _)
          have xv := HO2.out.vcell (t := t) htc HVB.out
          rw [hg] at xv
          obtain ⟨x, hx, _, _⟩ := HV.out t ht
          have hX2 : (c.bmp (P2 nv 3 0) loc k).X (1, t) = bump loc k (vw s t) := by rw [bmp_X, if_pos (by simp [P2, P1, ht]), HCV.out]
          obtain ⟨x', hx'⟩ : ∃ x', (bump loc k (vw s t))[loc]? = some x' := ⟨_, List.getElem?_eq_getElem (by rw [bump_length]; exact (List.getElem?_eq_some_iff.1 hx).1)⟩
          obtain ⟨xi, xf⟩ := HO2.out.icell (ix := (1, t)) (j := loc) (x := x') (domV htc) hg (by rw [hX2]; exact hx')
          obtain ⟨gc, hgc⟩ : ∃ gc, gc = (y.I (1, t)).2 := ⟨_, rfl⟩
          rw [← hgc] at xv
          have HO3 := hid (HO2.out.set (ix := (1, t)) (domV htc) hg loc (k : Int))
          rw [hX2] at HO3
          have HK3 := hid (HK2.out.trans ((Keeps.setCell _ ⟨g, loc, none⟩ (.int .i64 (k : Int))).mono fun b (e : b = g) => by rw [e]; exact HSX.out (1, t) (domV htc) g hg))
          have HG := hid hg
          have HGC := hid hgc
          have hloc : loc < 3 := by omega
          obtain ⟨hn0, hn1⟩ := HN.out loc hloc
          obtain ⟨N, hNe⟩ : ∃ N, N = (row5 s loc).length := ⟨_, rfl⟩
          have HNE := hid (show c.N loc = N from by rw [HCN.out, hNe])
          rw [← hNe] at hn0 hn1 hk
          obtain ⟨gl, hgl1, hglb, hgll⟩ := HRA.out loc hloc
          have HGL := hid hgl1
          obtain ⟨lc, hlc⟩ : ∃ lc, lc = (y.L loc).2 := ⟨_, rfl⟩
          have HLC := hid hlc
          obtain ⟨nw, hnw⟩ : ∃ nw, nw = (bump loc k (vw s t)).set loc (k : Int) := ⟨_, rfl⟩
          have hnw3 : nw.length = 3 := by rw [hnw, List.length_set, bump_length, ← HCV.out]; exact HLEN.out (1, t) (domV htc) (Nat.le_refl _)
          rw [← hnw] at HO3 HINS
          obtain ⟨w3, hw3⟩ : ∃ w3, w3 = wr.setCell ⟨g, loc, none⟩ (.int .i64 (k : Int)) := ⟨_, rfl⟩
          have hws3 : w3.heap.size = wr.heap.size := by rw [hw3]; simp [World.setCell]
          rw [← hw3] at HO3 HK3
          obtain ⟨c3, hc3⟩ : ∃ c3, c3 = (c.bmp (P2 nv 3 0) loc k).setX (1, t) nw := ⟨_, rfl⟩
          have HC3 := hid (show c3.X (1, t) = nw ∧ c3.N = c.N ∧ c3.nv = nv ∧ c3.nl = 3 ∧ (∀ ix, c3.dom ix ↔ c.dom ix) from by
            rw [hc3]
            exact ⟨setX_get _ _ _, rfl, HCNV.out, HCNL.out, fun ix => Iff.rfl⟩)
          rw [← hc3] at HO3 HINS
          have HNW3 := hid hnw3
          have HW3 := hid hw3
          clear hx hx' hX2 hgc HO2 HK2 hg hgl1 hlc hnw hNe hnw3 hc3 hw3
          -- the new view
          have hb4 : Below w3.heap.size w3 (w3.alloc (.cells #[] 3)) := (Below.refl _ _).alloc (Nat.le_refl _) _
          have HLIT := hid (own_lit0 w3 w3.heap.size 3 1 (Nat.le_refl _))
          have HK4 := hid (HK3.out.trans (Keeps.of_below hb4))
          obtain ⟨z2, z3⟩ := HBX.out _ HK4.out
          have HO4 := hid (HO3.out.below hb4)
          have zv := HO4.out.vcell (t := t) (by rw [HC3.out.2.2.1]; exact ht) HVB.out
          rw [HG.out, ← HGC.out] at zv
          have HRG := hid (show Rd (w3.alloc (.cells #[] 3)) (some ⟨g, 0, none⟩) (ints nw) from by
            have h1 := (HO4.out.rd HC3.out.2.2.2.1.symm).int (1, t) ((HC3.out.2.2.2.2 _).2 (domV htc))
            rw [HC3.out.1, HG.out] at h1
            exact h1.1)
          have hsz4 := hb4.size
          rw [hws3] at HLIT hsz4
          rw [HW3.out] at z2 z3 zv HLIT HRG hsz4
          clear hb4
          go_wp2_with (at_builtin; refine wpList_append_rd rfl (.tmp 112) (.tmp 117) 24 rfl _ 3 (.int .i64 0) 1 8 Try.underlying24 Try.info_int rfl (by decide) _ _ _ rfl HLIT.out (some ⟨g, 0, none⟩) 3 gc (ints nw) rfl HRG.out (by rw [List.length_map, HNW3.out]) (ints_one _ _) (by omega) (by decide) hsz4 ?_)
          intro v15 w15 hown15 hgrow15 _
          rw [← HW3.out] at hgrow15
          obtain ⟨a15, c15, rfl, _⟩ := own_shape hown15
          have hB15 : Below w3.heap.size w3 w15 := ((Below.refl w3.heap.size w3).alloc (Nat.le_refl _) (.cells #[] 3)).grown hgrow15 (by simp) (fun b hb => by simp [Value.ownBlock] at hb; omega)
          rw [← hws3] at hown15
          have HOW15 := hid hown15
          have hz15 := hB15.size
          clear x2 x3 xv xi xf z2 z3 zv HLIT HRG hsz4 HO4 HK4 hown15 hgrow15
          obtain ⟨w16, hw16⟩ : ∃ w16, w16 = (w15.alloc (.cells #[.int .i64 val, .bool false, .slice a15 3 c15] 117)).alloc (.cells #[] 117) := ⟨_, rfl⟩
          have hb16 : Below w15.heap.size w15 w16 := by rw [hw16]; exact ((Below.refl _ _).alloc (Nat.le_refl _) _).alloc (by simp) _
          have hz16 : w16.heap.size = w15.heap.size + 2 := by rw [hw16]; simp
          have HD16 := hid hb16
          have hm16 : w16.heap[w15.heap.size]? = some (.cells #[.int .i64 val, .bool false, .slice a15 3 c15] 117 (0, 0)) := by
            rw [hw16, heap_alloc_old _ _ (by simp)]
            exact heap_alloc_new w15 _
          have hB16 : Below w3.heap.size w3 w16 := hB15.trans (hb16.mono hz15)
          have HLIT2 := hid (show w16.ownsRow (w15.heap.size + 1) 117 3 (.slice (some ⟨w15.heap.size + 1, 0, none⟩) 0 0) 0 [] from by
            have h1 := own_lit0 (w15.alloc (.cells #[.int .i64 val, .bool false, .slice a15 3 c15] 117)) (w15.heap.size + 1) 117 3 (by simp)
            rw [World.size_alloc, ← hw16] at h1
            exact h1)
          have HO16 := hid (HO3.out.below hB16)
          have HK16 := hid (HK3.out.trans (Keeps.of_below hB16))
          obtain ⟨z2, z3⟩ := HBX.out _ HK16.out
          have hlc3 : loc < c3.nl := by rw [HC3.out.2.2.2.1]; exact hloc
          have hN3 : c3.N loc = N := by rw [HC3.out.2.1]; exact HNE.out
          have zl := (HO16.out.lcell (l := loc) hloc HLB.out).1
          rw [HGL.out, ← HLC.out, hN3] at zl
          obtain ⟨mc, hmc⟩ : ∃ mc, mc = mcells y c3.MV c3.LK loc N := ⟨_, rfl⟩
          have hmcl : mc.length = N * 3 := by rw [hmc, mcells_len]
          have HMONE := hid (show ∀ u ∈ mc, u.oneCell' = true from by rw [hmc]; exact mcells_one _ _ _ _ _)
          have HRW := hid (show Rd w16 (some ⟨gl, 0, none⟩) mc from by
            have h1 := HO16.out.row loc hlc3
            rw [HGL.out, hN3, ← hmc] at h1
            exact Rd.own h1)
          have HRT := hid (rd_takeV HRW.out (k * 3))
          have hNlc : N ≤ lc := by
            have h1 := own_cap (HO16.out.row loc hlc3)
            rw [hN3, ← HLC.out] at h1
            exact h1
          have hklc : (k : Int) ≤ (lc : Int) := by omega
          have hsz16 : w15.heap.size + 1 ≤ w16.heap.size := by omega
          have HMC := hid hmc
          have HML := hid hmcl
          have HM16 := hid hm16
          have HB16 := hid hB16
          rw [hw16] at z2 z3 zl HLIT2 HRT hsz16
          have HW16 := hid hw16
          have hTL : (mc.take (k * 3)).length = k * 3 := by rw [List.length_take]; omega
          have HTL := hid hTL
          clear hb16 hm16 hB16 hB15 hmc hmcl hN3 hlc3 hw16 hTL
          go_wp2_with (at_builtin; refine wpList_append_rd rfl (.tmp 120) (.tmp 127) 118 rfl _ 117 (.agg #[.int .i64 0, .bool false, .slice none 0 0]) 3 40 Try.underlying118 Try.info_msg rfl (by decide) _ _ _ rfl HLIT2.out (some ⟨gl, 0, none⟩) k lc (mc.take (k * 3)) rfl HRT.out HTL.out (fun u hu => HMONE.out u (List.mem_of_mem_take hu)) (by omega) (by decide) hsz16 ?_)
          intro v17 w17 hown17 hgrow17 _
          rw [← HW16.out] at hgrow17
          have hown17 : w17.ownsRow (w15.heap.size + 1) 117 3 v17 k (mc.take (k * 3)) := own_casI hown17 (by omega) (by simp)
          have hB17 : Below w3.heap.size w3 w17 := HB16.out.grown hgrow17 (by omega) (fun b hb => by simp [Value.ownBlock] at hb; omega)
          have HD17 := hid (HD16.out.grown hgrow17 (by omega) (fun b hb => by simp [Value.ownBlock] at hb; omega))
          have hm17 : w17.heap[w15.heap.size]? = some (.cells #[.int .i64 val, .bool false, .slice a15 3 c15] 117 (0, 0)) := (hgrow17.block _ (by omega) (fun e => by simp [Value.ownBlock] at e)).trans HM16.out
          have m0 := cell_of_row w17 w15.heap.size 0 _ _ _ hm17
          have m1 := cell_of_row w17 w15.heap.size 1 _ _ _ hm17
          have m2 := cell_of_row w17 w15.heap.size 2 _ _ _ hm17
          obtain ⟨a17, c17, rfl, _⟩ := own_shape hown17
          have hz17 := hgrow17.size
          have hb18 : Below w17.heap.size w17 (w17.alloc (.cells #[.int .i64 val, .bool false, .slice a15 3 c15] 117)) := (Below.refl _ _).alloc (Nat.le_refl _) _
          have HLIT3 := hid (own_below hown17 hb18)
          have HRM := hid (rd_new3 w17 (.int .i64 val) (.bool false) (.slice a15 3 c15) 117)
          have hsz18 : w15.heap.size + 1 ≤ (w17.alloc (.cells #[.int .i64 val, .bool false, .slice a15 3 c15] 117)).heap.size := by rw [World.size_alloc]; omega
          have HB17 := hid (hB17.alloc hB17.size (.cells #[.int .i64 val, .bool false, .slice a15 3 c15] 117))
          have HGB := hid (own_blk HLIT3.out)
          have HD18 := hid (HD17.out.alloc HD17.out.size (.cells #[.int .i64 val, .bool false, .slice a15 3 c15] 117))
          clear z2 z3 zl HLIT2 HRT hsz16 hown17 hgrow17 hB17 hm17 hb18 HM16 HB16 HRW
          go_wp2_with (at_builtin; refine wpList_append_rd rfl (.tmp 129) (.tmp 131) 118 rfl _ 117 (.agg #[.int .i64 0, .bool false, .slice none 0 0]) 3 40 Try.underlying118 Try.info_msg rfl (by decide) _ _ _ rfl HLIT3.out _ 1 1 [.int .i64 val, .bool false, .slice a15 3 c15] rfl HRM.out rfl (by simp [Value.oneCell']) (by omega) (by decide) hsz18 ?_)
          intro v18 w18 hown18 hgrow18 _
          have hown18 : w18.ownsRow (w15.heap.size + 1) 117 3 v18 (k + 1) (mc.take (k * 3) ++ [.int .i64 val, .bool false, .slice a15 3 c15]) := hown18
          obtain ⟨a18, c18, rfl, _⟩ := own_shape hown18
          have hB18 : Below w3.heap.size w3 w18 := HB17.out.grown hgrow18 (by rw [World.size_alloc]; omega) (fun b hb => by rw [ownBlock_slice] at hb; have := (HGB.out b hb).1; omega)
          have hD18 : Below w15.heap.size w15 w18 := HD18.out.grown hgrow18 (by rw [World.size_alloc]; omega) (fun b hb => by rw [ownBlock_slice] at hb; have := (HGB.out b hb).1; omega)
          have hz18 : w17.heap.size + 1 ≤ w18.heap.size := by have := hgrow18.size; rwa [World.size_alloc] at this
          have HO18 := hid (HO3.out.below hB18)
          have HK18 := hid (HK3.out.trans (Keeps.of_below hB18))
          have HOW18 := hid (own_below HOW15.out hD18)
          have HROW := hid hown18
          obtain ⟨z2, z3⟩ := HBX.out _ HK18.out
          have hlc3 : loc < c3.nl := by rw [HC3.out.2.2.2.1]; exact hloc
          have hN3 : c3.N loc = N := by rw [HC3.out.2.1]; exact HNE.out
          have zl := (HO18.out.lcell (l := loc) hloc HLB.out).1
          rw [HGL.out, ← HLC.out, hN3] at zl
          have HRW := hid (show Rd w18 (some ⟨gl, 0, none⟩) mc from by
            have h1 := HO18.out.row loc hlc3
            rw [HGL.out, hN3, ← HMC.out] at h1
            exact Rd.own h1)
          have HDL := hid (show (mc.drop (k * 3)).length = (N - k) * 3 from by rw [List.length_drop, HML.out]; omega)
          have hlbw : lb < w15.heap.size := by have := HK3.out.size; omega
          have hwb : w.heap.size < w15.heap.size := by have := HK3.out.size; omega
          have hkN : k ≤ N := hk
          have hkN' : (k : Int) ≤ (N : Int) := by omega
          have hNlc' : (N : Int) ≤ (lc : Int) := by omega
          have HB18 := hid hB18
          have HZ3 := hid z3
          have HZL := hid zl
          have HSTART := hid (show InI w15.heap.size w18 N ((mc.take (k * 3) ++ [.int .i64 val, .bool false, .slice a15 3 c15]) ++ mc.drop (k * 3)) (fun _ => false) (fun _ => undef) w18.drew from
            ⟨⟨rfl, rfl, rfl, Nat.le_refl _, fun _ _ _ => rfl⟩, fun _ => below_drewN 1 (Below.refl _ _), fun e => by cases e⟩)
          clear m0 m1 m2 HLIT3 HRM hsz18 HGB hown18 hgrow18 hB18 hD18 HD16 HD17 HD18 HB17 z2 z3 zl hN3 hlc3
          obtain ⟨B15, hB15e⟩ : ∃ B15, B15 = w15.heap.size := ⟨_, rfl⟩
          rw [← hB15e] at hlbw hwb HSTART HROW
          have HB15E := hid hB15e
          clear hB15e
          obtain ⟨CS, hCS⟩ : ∃ CS, CS = (mc.take (k * 3) ++ [.int .i64 val, .bool false, .slice a15 3 c15]) ++ mc.drop (k * 3) := ⟨_, rfl⟩
          rw [← hCS] at HSTART
          have HCS := hid hCS
          have HHELD := hid (fun S ρ wx (h : InI B15 w18 N CS S ρ wx) (b o : Nat) (u : Value) (hb : b < B15) (hc : w18.cell? ⟨b, o, none⟩ = some u) => show wx.cell? ⟨b, o, none⟩ = some u from by
            have hlt := World.block_lt_of_cell? w18 ⟨b, o, none⟩ hc
            rw [World.cell?_of_block (h.k.block b hlt (fun e => by have e : B15 < b := e; omega))]
            exact hc)
          clear hCS
          by_cases hkc : k = lc
          · subst hkc
            have HDN := hid (show mc.drop (k * 3) = [] from List.drop_eq_nil_of_le (by rw [HML.out]; omega))
            go_wp2_with fail
            refine FR.wp_region_free 12 (InI B15 w18 N CS) (by kernel_rfl) (by kernel_rfl) (by kernel_rfl) (fun _ => undef) HSTART.out fun V => ?_
            (refine FR.frGo_pure _ rfl (fun K hK => ?_); go_simp; (first | refine hK _ ?_ | refine ⟨_, fun W hW => rfl, hK _ ?_⟩ | refine ⟨_, fun W hW => ⟨rfl, rfl⟩, hK _ ?_⟩); clear hK K)
            refine FR.frGo_held (k := 1) _ rfl (fun w' => w'.cell? ⟨w.heap.size, 3, none⟩ = some (.slice (some ⟨lb, 0, none⟩) 3 q.c3)) (fun S ρ w' h _ => HHELD.out S ρ w' h _ _ _ hwb HZ3.out) (fun K hK => ?_)
            go_simp
            refine ⟨.slice (some ⟨lb, 0, none⟩) 3 q.c3, fun W hW => ?_, hK _ ?_⟩
            · go_simp
            clear hK K
            (refine FR.frGo_pure _ rfl (fun K hK => ?_); go_simp; (first | refine hK _ ?_ | refine ⟨_, fun W hW => rfl, hK _ ?_⟩ | refine ⟨_, fun W hW => ⟨rfl, rfl⟩, hK _ ?_⟩); clear hK K)
            (refine FR.frGo_pure _ rfl (fun K hK => ?_); go_simp; (first | refine hK _ ?_ | refine ⟨_, fun W hW => rfl, hK _ ?_⟩ | refine ⟨_, fun W hW => ⟨rfl, rfl⟩, hK _ ?_⟩); clear hK K)
            (refine FR.frGo_pure _ rfl (fun K hK => ?_); go_simp; (first | refine hK _ ?_ | refine ⟨_, fun W hW => rfl, hK _ ?_⟩ | refine ⟨_, fun W hW => ⟨rfl, rfl⟩, hK _ ?_⟩); clear hK K)
            refine FR.frGo_held (k := 5) _ rfl (fun w' => w'.cell? ⟨w.heap.size, 3, none⟩ = some (.slice (some ⟨lb, 0, none⟩) 3 q.c3)) (fun S ρ w' h _ => HHELD.out S ρ w' h _ _ _ hwb HZ3.out) (fun K hK => ?_)
            go_simp
            refine ⟨.slice (some ⟨lb, 0, none⟩) 3 q.c3, fun W hW => ?_, hK _ ?_⟩
            · go_simp
            clear hK K
            (refine FR.frGo_pure _ rfl (fun K hK => ?_); go_simp; (first | refine hK _ ?_ | refine ⟨_, fun W hW => rfl, hK _ ?_⟩ | refine ⟨_, fun W hW => ⟨rfl, rfl⟩, hK _ ?_⟩); clear hK K)
            (refine FR.frGo_pure _ rfl (fun K hK => ?_); go_simp; (first | refine hK _ ?_ | refine ⟨_, fun W hW => rfl, hK _ ?_⟩ | refine ⟨_, fun W hW => ⟨rfl, rfl⟩, hK _ ?_⟩); clear hK K)
            refine FR.frGo_held (k := 8) _ rfl (fun w' => w'.cell? ⟨lb, loc, none⟩ = some (.slice (some ⟨gl, 0, none⟩) N k)) (fun S ρ w' h _ => HHELD.out S ρ w' h _ _ _ hlbw HZL.out) (fun K hK => ?_)
            go_simp
            refine ⟨.slice (some ⟨gl, 0, none⟩) N k, fun W hW => ?_, hK _ ?_⟩
            · go_simp
            clear hK K
            (refine FR.frGo_pure _ rfl (fun K hK => ?_); go_simp; (first | refine hK _ ?_ | refine ⟨_, fun W hW => rfl, hK _ ?_⟩ | refine ⟨_, fun W hW => ⟨rfl, rfl⟩, hK _ ?_⟩); clear hK K)
            (refine FR.frGo_pure _ rfl (fun K hK => ?_); go_simp; (first | refine hK _ ?_ | refine ⟨_, fun W hW => rfl, hK _ ?_⟩ | refine ⟨_, fun W hW => ⟨rfl, rfl⟩, hK _ ?_⟩); clear hK K)
            refine FR.frGo_act (k := 11) _ rfl (fun S ρ w' hI hS hp K hK => ?_) ?_
            · have hb := hI.p0 hS
              refine oper_append_rd _ _ 118 rfl (B15 + 1) 117 (.agg #[.int .i64 0, .bool false, .slice none 0 0]) 3 40 Try.underlying118 Try.info_msg rfl (by decide) (.slice a18 (k + 1) c18) (k + 1) _ rfl (own_below HROW.out hb) (some ⟨gl, 0, none⟩) 0 0 (mc.drop (k * 3)) rfl (.inl HDN.out) (by rw [HDN.out]; rfl) (fun u hu => HMONE.out u (List.mem_of_mem_drop hu)) (by omega) (by decide) (by have := hb.size; have := HB15E.out; omega) ?_
              intro a' c' w'' hown hgrow hat
              have hownN : w''.ownsRow (B15 + 1) 117 3 (.slice a' (N + 1) c') (N + 1) CS := by
                have e : k + 1 + 0 = N + 1 := by omega
                rw [e] at hown
                rw [HCS.out]
                exact hown
              obtain ⟨g', rfl, hg'1, _⟩ := own_some hownN (by omega)
              have hk9 := hK (.slice (some ⟨g', 0, none⟩) (N + 1) c') w'' ⟨hI.k.trans (Keeps.of_grown hgrow fun b hb' => by
                rw [ownBlock_slice] at hb'
                have := (own_blk HROW.out b hb').1
                show B15 < b
                omega), fun e => (by rw [FR.upd_same] at e; cases e), fun _ => ⟨g', c', (by rw [FR.upd_same]), hownN⟩⟩
              rw [show N + 1 = k + 1 + 0 from by omega] at hk9
              exact hk9
            refine FR.frGo_nil _ ?_
            intro S ρ w19 hI hS
            have z11 := hS 11 (by decide) (by kernel_rfl)
            obtain ⟨g', c', e11, hrow⟩ := hI.p1 z11.1
            rw [z11.2] at e11
            rw [e11]
            have hk19 := hI.k
            have hk319 : Keeps (fun b => w3.heap.size ≤ b) w3 w19 := (Keeps.of_below HB18.out).trans (hk19.mono fun b (hb : B15 < b) => by have := HB15E.out; omega)
            have HO19 := hid (HO3.out.keeps hk319 (fun b _ h1 h2 => by omega))
            have HOW19 := hid (own_keeps HOW18.out hk19 (fun b hb (e : B15 < b) => by have := (own_blk HOW15.out b hb).2; have := HB15E.out; omega))
            have hlc3 : loc < c3.nl := by rw [HC3.out.2.2.2.1]; exact hloc
            have hN3 : c3.N loc = N := by rw [HC3.out.2.1]; exact HNE.out
            obtain ⟨yl, yf⟩ := HO19.out.lcell (l := loc) hloc HLB.out
            have HRES := hid (show FrC (w19.setCell ⟨lb, loc, none⟩ (.slice (some ⟨g', 0, none⟩) (N + 1) c')) base q (ct (ins5 s t loc k val)) from by
              have h1 := ins_fin (loc := loc) (k := k) (val := val) (nw := nw) (r := (a15, c15)) (g' := g') (cc := c') (B1 := w3.heap.size) (B2 := B15 + 1) HO19.out HC3.out.2.2.2.1 hloc (by rw [hN3]; exact hkN) HLB.out HOW19.out HNW3.out (by have := HK3.out.size; omega) (by rw [hN3, ← HMC.out, ← HCS.out]; exact hrow) (by have := HK3.out.size; have := HB15E.out; omega)
              rw [hN3] at h1
              exact h1.congr HINS.out)
            have HKF := hid (show Keeps (InS q y c) w (w19.setCell ⟨lb, loc, none⟩ (.slice (some ⟨g', 0, none⟩) (N + 1) c')) from by
              have h1 : Keeps (InS q y c) w1 w18 := HK18.out
              have h2 : Keeps (fun b => InS q y c b ∨ w1.heap.size ≤ b) w1 w19 := (h1.mono fun b hb => .inl hb).trans (hk19.mono fun b (hb : B15 < b) => .inr (by have := HK3.out.size; have := HB15E.out; omega))
              have h3 : Keeps (InS q y c) w1 w19 := ⟨h2.os, h2.tape, h2.output, h2.size, fun b hb hn => h2.block b hb (fun e => by rcases e with e | e; exact hn e; omega)⟩
              exact ((Keeps.of_below HB1.out).trans h3).trans ((Keeps.setCell w19 ⟨lb, loc, none⟩ _).mono fun b (e : b = lb) => .inr (by rw [HLB.out, e]; rfl)))
            clear hk319 hk19 hrow e11 z11 hS hI
            go_wp2_with (first | (with_reducible refine wpMix_nil ?_) | (with_reducible refine wpMix_rd rfl rfl (fun K hK => ?_); go_simp; (try go_bits); refine hK _ ?_; clear hK K) | (with_reducible refine wpMix_act (o := ⟨_, .store _ _ _, _, _, _, _⟩) rfl rfl (fun K hK => ?_)))
            have XXX : True := trivial
            go_end0
            exact ⟨rfl, HRES.out, HKF.out⟩
          · have hkc' : ¬ (lc : Int) = (k : Int) := by omega
            have hkc2 : ¬ lc - k = 0 := by omega
            have hkc3 : ¬ lc = k := by omega
            have hkc4 : ¬ lc ≤ k := by omega
            go_wp2_with fail
            refine FR.wp_region_free 12 (InI B15 w18 N CS) (by kernel_rfl) (by kernel_rfl) (by kernel_rfl) (fun _ => undef) HSTART.out fun V => ?_
            (refine FR.frGo_pure _ rfl (fun K hK => ?_); go_simp; (first | refine hK _ ?_ | refine ⟨_, fun W hW => rfl, hK _ ?_⟩ | refine ⟨_, fun W hW => ⟨rfl, rfl⟩, hK _ ?_⟩); clear hK K)
            refine FR.frGo_held (k := 1) _ rfl (fun w' => w'.cell? ⟨w.heap.size, 3, none⟩ = some (.slice (some ⟨lb, 0, none⟩) 3 q.c3)) (fun S ρ w' h _ => HHELD.out S ρ w' h _ _ _ hwb HZ3.out) (fun K hK => ?_)
            go_simp
            refine ⟨.slice (some ⟨lb, 0, none⟩) 3 q.c3, fun W hW => ?_, hK _ ?_⟩
            · go_simp
            clear hK K
            (refine FR.frGo_pure _ rfl (fun K hK => ?_); go_simp; (first | refine hK _ ?_ | refine ⟨_, fun W hW => rfl, hK _ ?_⟩ | refine ⟨_, fun W hW => ⟨rfl, rfl⟩, hK _ ?_⟩); clear hK K)
            (refine FR.frGo_pure _ rfl (fun K hK => ?_); go_simp; (first | refine hK _ ?_ | refine ⟨_, fun W hW => rfl, hK _ ?_⟩ | refine ⟨_, fun W hW => ⟨rfl, rfl⟩, hK _ ?_⟩); clear hK K)
            (refine FR.frGo_pure _ rfl (fun K hK => ?_); go_simp; (first | refine hK _ ?_ | refine ⟨_, fun W hW => rfl, hK _ ?_⟩ | refine ⟨_, fun W hW => ⟨rfl, rfl⟩, hK _ ?_⟩); clear hK K)
            refine FR.frGo_held (k := 5) _ rfl (fun w' => w'.cell? ⟨w.heap.size, 3, none⟩ = some (.slice (some ⟨lb, 0, none⟩) 3 q.c3)) (fun S ρ w' h _ => HHELD.out S ρ w' h _ _ _ hwb HZ3.out) (fun K hK => ?_)
            go_simp
            refine ⟨.slice (some ⟨lb, 0, none⟩) 3 q.c3, fun W hW => ?_, hK _ ?_⟩
            · go_simp
            clear hK K
            (refine FR.frGo_pure _ rfl (fun K hK => ?_); go_simp; (first | refine hK _ ?_ | refine ⟨_, fun W hW => rfl, hK _ ?_⟩ | refine ⟨_, fun W hW => ⟨rfl, rfl⟩, hK _ ?_⟩); clear hK K)
            (refine FR.frGo_pure _ rfl (fun K hK => ?_); go_simp; (first | refine hK _ ?_ | refine ⟨_, fun W hW => rfl, hK _ ?_⟩ | refine ⟨_, fun W hW => ⟨rfl, rfl⟩, hK _ ?_⟩); clear hK K)
            refine FR.frGo_held (k := 8) _ rfl (fun w' => w'.cell? ⟨lb, loc, none⟩ = some (.slice (some ⟨gl, 0, none⟩) N lc)) (fun S ρ w' h _ => HHELD.out S ρ w' h _ _ _ hlbw HZL.out) (fun K hK => ?_)
            go_simp
            refine ⟨.slice (some ⟨gl, 0, none⟩) N lc, fun W hW => ?_, hK _ ?_⟩
            · go_simp
            clear hK K
            (refine FR.frGo_pure _ rfl (fun K hK => ?_); go_simp; (first | refine hK _ ?_ | refine ⟨_, fun W hW => rfl, hK _ ?_⟩ | refine ⟨_, fun W hW => ⟨rfl, rfl⟩, hK _ ?_⟩); clear hK K)
            (refine FR.frGo_pure _ rfl (fun K hK => ?_); go_simp; (first | refine hK _ ?_ | refine ⟨_, fun W hW => rfl, hK _ ?_⟩ | refine ⟨_, fun W hW => ⟨rfl, rfl⟩, hK _ ?_⟩); clear hK K)
            refine FR.frGo_act (k := 11) _ rfl (fun S ρ w' hI hS hp K hK => ?_) ?_
            · have hb := hI.p0 hS
              refine oper_append_rd _ _ 118 rfl (B15 + 1) 117 (.agg #[.int .i64 0, .bool false, .slice none 0 0]) 3 40 Try.underlying118 Try.info_msg rfl (by decide) (.slice a18 (k + 1) c18) (k + 1) _ rfl (own_below HROW.out hb) (some ⟨gl, k * 3, none⟩) (N - k) (lc - k) (mc.drop (k * 3)) rfl ((by have h1 := rd_dropV (HRW.out.below hb) (k * 3); rwa [Nat.zero_add] at h1)) HDL.out (fun u hu => HMONE.out u (List.mem_of_mem_drop hu)) (by omega) (by decide) (by have := hb.size; have := HB15E.out; omega) ?_
              intro a' c' w'' hown hgrow hat
              have hownN : w''.ownsRow (B15 + 1) 117 3 (.slice a' (N + 1) c') (N + 1) CS := by
                have e : k + 1 + (N - k) = N + 1 := by omega
                rw [e] at hown
                rw [HCS.out]
                exact hown
              obtain ⟨g', rfl, hg'1, _⟩ := own_some hownN (by omega)
              have e : k + 1 + (N - k) = N + 1 := by omega
              rw [e]
              refine hK _ _ ⟨hI.k.trans (Keeps.of_grown hgrow fun b hb' => ?_), fun e => (by rw [FR.upd_same] at e; cases e), fun _ => ⟨g', c', (by rw [FR.upd_same]), hownN⟩⟩
              rw [ownBlock_slice] at hb'
              have := (own_blk HROW.out b hb').1
              show B15 < b
              omega
            refine FR.frGo_nil _ ?_
            intro S ρ w19 hI hS
            have z11 := hS 11 (by decide) (by kernel_rfl)
            obtain ⟨g', c', e11, hrow⟩ := hI.p1 z11.1
            rw [z11.2] at e11
            rw [e11]
            have hk19 := hI.k
            have hk319 : Keeps (fun b => w3.heap.size ≤ b) w3 w19 := (Keeps.of_below HB18.out).trans (hk19.mono fun b (hb : B15 < b) => by have := HB15E.out; omega)
            have HO19 := hid (HO3.out.keeps hk319 (fun b _ h1 h2 => by omega))
            have HOW19 := hid (own_keeps HOW18.out hk19 (fun b hb (e : B15 < b) => by have := (own_blk HOW15.out b hb).2; have := HB15E.out; omega))
            have hlc3 : loc < c3.nl := by rw [HC3.out.2.2.2.1]; exact hloc
            have hN3 : c3.N loc = N := by rw [HC3.out.2.1]; exact HNE.out
            obtain ⟨yl, yf⟩ := HO19.out.lcell (l := loc) hloc HLB.out
            have HRES := hid (show FrC (w19.setCell ⟨lb, loc, none⟩ (.slice (some ⟨g', 0, none⟩) (N + 1) c')) base q (ct (ins5 s t loc k val)) from by
              have h1 := ins_fin (loc := loc) (k := k) (val := val) (nw := nw) (r := (a15, c15)) (g' := g') (cc := c') (B1 := w3.heap.size) (B2 := B15 + 1) HO19.out HC3.out.2.2.2.1 hloc (by rw [hN3]; exact hkN) HLB.out HOW19.out HNW3.out (by have := HK3.out.size; omega) (by rw [hN3, ← HMC.out, ← HCS.out]; exact hrow) (by have := HK3.out.size; have := HB15E.out; omega)
              rw [hN3] at h1
              exact h1.congr HINS.out)
            have HKF := hid (show Keeps (InS q y c) w (w19.setCell ⟨lb, loc, none⟩ (.slice (some ⟨g', 0, none⟩) (N + 1) c')) from by
              have h1 : Keeps (InS q y c) w1 w18 := HK18.out
              have h2 : Keeps (fun b => InS q y c b ∨ w1.heap.size ≤ b) w1 w19 := (h1.mono fun b hb => .inl hb).trans (hk19.mono fun b (hb : B15 < b) => .inr (by have := HK3.out.size; have := HB15E.out; omega))
              have h3 : Keeps (InS q y c) w1 w19 := ⟨h2.os, h2.tape, h2.output, h2.size, fun b hb hn => h2.block b hb (fun e => by rcases e with e | e; exact hn e; omega)⟩
              exact ((Keeps.of_below HB1.out).trans h3).trans ((Keeps.setCell w19 ⟨lb, loc, none⟩ _).mono fun b (e : b = lb) => .inr (by rw [HLB.out, e]; rfl)))
            clear hk319 hk19 hrow e11 z11 hS hI
            go_wp2_with (first | (with_reducible refine wpMix_nil ?_) | (with_reducible refine wpMix_rd rfl rfl (fun K hK => ?_); go_simp; (try go_bits); refine hK _ ?_; clear hK K) | (with_reducible refine wpMix_act (o := ⟨_, .store _ _ _, _, _, _, _⟩) rfl rfl (fun K hK => ?_)))
            have XXX : True := trivial
            go_end0
            exact ⟨rfl, HRES.out, HKF.out⟩
end Go.Proofs.Ythlmfjoiicnomaa
