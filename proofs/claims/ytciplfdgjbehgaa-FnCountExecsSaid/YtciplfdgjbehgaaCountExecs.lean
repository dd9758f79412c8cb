/-
  PROVED HERE: laws.FnCountExecs returns true for every input, and each argument reads behind the call as it read before. CONDITIONS: none.
-/
import Derived.Test.YtciplfdgjbehgaaRdp
import Derived.ShutString
import Derived.ChangeOld
namespace Go.Proofs.Ytciplfdgjbehgaa.fnCountExecs
open Go.ChangeShapes Go.WideShapes Go.ChangeAt Go.RowKit
open Go.ChangeMaps (open_string shut_string)
set_option linter.unusedVariables false
open Go.Proofs.Ytciplfdgjbehgaa
theorem own : ownKnob Try.prog.godebug = none := by kernel_rfl
theorem laidOut : laidOutB Try.prog = true := by kernel_rfl

theorem walkBig (w : World) (a0 : Option Addr) (cap0 : Nat) (bs0 : List Int) (h0 : Rd w a0 (u8s bs0)) (f0 : ∀ n ∈ bs0, (Lit.int .u8 n).wf = true) (d0 : bs0.length ≤ cap0 ∧ cap0 ≤ 9223372036854775807) (hb : 1048576 < bs0.length) :
    Calls Try.prog 5 #[.slice a0 bs0.length cap0] w fun e w' => e = .returned (.bool true) ∧ Below w.heap.size w w' := by
  clear h0 f0 d0
  have g : (1048576 : Int) < bs0.length := by omega
  go_enter Try.func5, Try.ntmps5
  go_wp2
  go_ret
  exact ⟨rfl, Below.refl _ _⟩

set_option maxHeartbeats 3200000 in
theorem walkSmall (w : World) (a0 : Option Addr) (cap0 : Nat) (bs0 : List Int) (h0 : Rd w a0 (u8s bs0)) (f0 : ∀ n ∈ bs0, (Lit.int .u8 n).wf = true) (d0 : bs0.length ≤ cap0 ∧ cap0 ≤ 9223372036854775807) (s0 : bs0.length ≤ 1048576) :
    Calls Try.prog 5 #[.slice a0 bs0.length cap0] w fun e w' => e = .returned (.bool true) ∧ Below w.heap.size w w' := by
  have g0 : decide ((1048576 : Int) < bs0.length) = false := by simp; omega
  have CD0 := hid (fun (w1 : World) (hb : Below w.heap.size w w1) => drawCountExecs_c w1 a0 cap0 bs0 (h0.below hb) (byte_wf f0) s0 d0.1 d0.2)
  clear h0 f0 d0 s0
  go_enter Try.func5, Try.ntmps5
  go_wp2_with fail
  refine (CD0.out _ (Below.refl _ _)).mono ?_
  rintro e w1 ⟨p, a1, c1, rfl, hc1, hr1, hz1, hb1⟩
  have hpl := sizeP_len p
  have HR1 := hid hr1
  have HB1 := hid hb1
  have hs1 := hb1.size
  have HCI := hid (fun w h => ceI_c w a1 c1 p h (by omega))
  have HCS := hid (fun w h => ceS_c w a1 c1 p h (by omega))
  have HPV := hid (fun w h => pvI_c w a1 c1 p h (by omega))
  obtain ⟨V, hV⟩ : ∃ V, V = progValid p := ⟨_, rfl⟩
  rw [← hV] at HPV
  have HV := hid hV
  clear hV
  obtain ⟨n, hn⟩ : ∃ n, n = p.length := ⟨_, rfl⟩
  have HN := hid hn
  rw [← hn] at hc1 hpl HCI HCS HPV ⊢
  clear hr1 hb1 hn
  obtain ⟨N, hN⟩ : ∃ N, N = countExecs p := ⟨_, rfl⟩
  rw [← hN] at HCI HCS
  have HNN := hid hN
  clear hN
  go_wp2_with fail
  refine (HCI.out _ HR1.out).mono ?_
  rintro e w2 ⟨rfl, hb2⟩
  have HR2 := hid (HR1.out.below hb2)
  have HB2 := hid (HB1.out.trans (hb2.mono HB1.out.size))
  have hs2 := hb2.size
  clear hb2
  go_wp2_with fail
  refine (HCS.out _ HR2.out).mono ?_
  rintro e w3 ⟨rfl, hb3⟩
  have HR3 := hid (HR2.out.below hb3)
  have HB3 := hid (HB2.out.trans (hb3.mono HB2.out.size))
  have hs3 := hb3.size
  clear hb3
  go_wp2_with fail
  refine (HPV.out _ HR3.out).mono ?_
  rintro e w4 ⟨rfl, hb4⟩
  have HR4 := hid (HR3.out.below hb4)
  have HB4 := hid (HB3.out.trans (hb4.mono HB3.out.size))
  have hs4 := hb4.size
  clear hb4
  cases V
  · obtain rfl : N = 0 := by rw [HNN.out]; exact (execs_zero p).2 HV.out.symm
    go_wp2_with fail
    refine (HCS.out _ HR4.out).mono ?_
    rintro e w5 ⟨rfl, hb5⟩
    have HR5 := hid (HR4.out.below hb5)
    have HB5 := hid (HB4.out.trans (hb5.mono HB4.out.size))
    have hs5 := hb5.size
    clear hb5
    go_wp2_with fail
    refine (HPV.out _ HR5.out).mono ?_
    rintro e w6 ⟨rfl, hb6⟩
    have HR6 := hid (HR5.out.below hb6)
    have HB6 := hid (HB5.out.trans (hb6.mono HB5.out.size))
    have hs6 := hb6.size
    clear hb6
    go_wp2_with fail
    go_ret
    exact ⟨rfl, HB6.out⟩
  · have hN1 : 1 ≤ N := by rw [HNN.out]; exact (valid_pos HV.out.symm).1
    have hN2 : N ≤ 3000 := by rw [HNN.out]; exact (valid_pos HV.out.symm).2
    have hn0 : 0 < n := by rw [HN.out]; exact (valid_of HV.out.symm).pos
    have hN1' : (1 : Int) ≤ (N : Int) := by omega
    have hN2' : (N : Int) ≤ 3000 := by omega
    obtain ⟨xs, hxs⟩ : ∃ xs, p[0]? = some xs := ⟨_, List.getElem?_eq_getElem (by rw [← HN.out]; exact hn0)⟩
    obtain ⟨b, off, r, rc, xs', hab, hb, hx', hcell, hrd, hrc⟩ := HR4.out.at' 0 (by rw [← HN.out]; exact hn0)
    obtain rfl : xs = xs' := by rw [hxs] at hx'; exact Option.some.inj hx'
    subst hab
    have HX := hid hxs
    have hml : xs.length ≤ 100 := by have := sizeP_row hxs; omega
    obtain ⟨m, hm⟩ : ∃ m, m = xs.length := ⟨_, rfl⟩
    have HM := hid hm
    rw [← hm] at hcell hml hrc
    rw [Nat.add_zero] at hcell
    have HRD := hid hrd
    clear hxs hx' hm hrd
    obtain ⟨rs, hl, ho, hi⟩ := HR4.out
    have HI := hid hi
    have HRL := hid (show rs.length = p.length from hl)
    have HCR := hid (show (rowsV rs p).length = n * 1 by rw [length_rowsV hl, ← HN.out, Nat.mul_one])
    have HOA := hid (ho.alloc (.cells #[] 29))
    have hsk := HB4.out.size
    clear hi ho hl
    go_wp2_with (at_builtin; refine wpList_append_rd rfl (.tmp 34) (.tmp 35) 30 rfl w.heap.size 29 (.slice none 0 0) 1 24 Try.underlying30 Try.info_row rfl (by decide) _ 0 [] rfl (own_lit0 w4 w.heap.size 29 1 hsk) (some ⟨b, off, none⟩) n c1 (rowsV rs p) rfl HOA.out HCR.out (rowsV_one rs p) (by omega) (by decide) (by simp; omega) ?_)
    intro v5 w5 hown5 hgrow5 hat5
    obtain ⟨a5, c5, rfl, _⟩ := own_shape hown5
    have hown5' : w5.ownsRow w.heap.size 29 1 (.slice a5 n c5) n (rowsV rs p) := by simpa using hown5
    obtain ⟨G, rfl, hGb, hGs⟩ := own_some hown5' hn0
    have HO5 := hid hown5'
    rw [ownBlock_slice] at hat5
    have hG : w4.heap.size ≤ G := by
      rcases hat5 with h | h
      · simp [Value.ownBlock, blk] at h; omega
      · simp [blk] at h; omega
    have HBk := hid (((Below.refl w4.heap.size w4).alloc (Nat.le_refl _) (.cells #[] 29)).grown hgrow5 (by simp) (fun q hq => by simp [Value.ownBlock] at hq; omega))
    have HB5 := hid (HB4.out.trans (HBk.out.mono hsk))
    have hs5 := HBk.out.size
    clear hown5 hown5' hgrow5 hat5
    have hc5 := (HBk.out.cell (p := ⟨b, off, none⟩) hb).trans hcell
    have hb5 : b < w5.heap.size := by omega
    have HRX := hid ((HRD.out.below HBk.out).alloc (.cells #[] 24))
    have hb5' := HB5.out.size
    clear hcell
    go_wp2_with (at_builtin; refine wpList_append_rd rfl (.tmp 38) (.tmp 41) 29 rfl w.heap.size 24 (.agg #[.int .i64 0, .int .i64 0, .int .i64 0, .int .i64 0]) 4 32 Try.underlying29 Try.info_instr rfl (by decide) _ 0 [] rfl (own_lit0 w5 w.heap.size 24 4 hb5') r m rc (insV xs) rfl HRX.out (by rw [length_insV, HM.out]) (insV_one xs) (by omega) (by decide) (by simp; omega) ?_)
    intro v6 w6 hown6 hgrow6 hat6
    obtain ⟨a6, c6, rfl, _⟩ := own_shape hown6
    have HO6 := hid (show w6.ownsRow w.heap.size 24 4 (.slice a6 m c6) m (insV xs) by simpa using hown6)
    have HQ6 := hid (show w6.ownsRow w.heap.size 29 1 (.slice (some ⟨G, 0, none⟩) n c5) n (rowsV rs p) from own_kept (HO5.out.alloc _) hgrow6 (fun q hq e => by simp [Value.ownBlock, blk] at hq e; omega))
    have H6L : ∀ q, blk a6 = some q → w5.heap.size ≤ q := fun q hq => by
      rw [ownBlock_slice] at hat6
      rcases hat6 with h | h
      · rw [hq] at h; simp [Value.ownBlock] at h; omega
      · rw [hq] at h; simp at h; omega
    have HB6 := hid ((HBk.out.alloc (by omega) (.cells #[] 24)).grown hgrow6 (by simp; omega) (fun q hq => by simp [Value.ownBlock] at hq; omega))
    have hs6 : w5.heap.size + 1 ≤ w6.heap.size := by have := hgrow6.size; simp at this; omega
    clear hown6 hgrow6 hat6 hc5
    go_wp2_with (at_builtin; refine wpList_append_ins rfl (.tmp 42) (.tmp 44) rfl w.heap.size (.slice a6 m c6) m xs rfl (HO6.out.alloc _) ⟨w6.heap.size, 0, none⟩ ⟨4, 0, 0, 0⟩ rfl (ins_laid w6 ⟨4, 0, 0, 0⟩ _) (by omega) (by simp; omega) ?_)
    intro v7 w7 hown7 hgrow7 hat7
    obtain ⟨a7, c7, rfl, _⟩ := own_shape hown7
    have HO7 := hid hown7
    rw [ownBlock_slice] at hgrow7
    have HQ7 := hid (own_other (HQ6.out.alloc _) (HO6.out.alloc (.cells #[.int .i64 4, .int .i64 0, .int .i64 0, .int .i64 0] 24)) (by decide) hgrow7)
    have h6b : ∀ q, blk a6 = some q → w4.heap.size ≤ q := fun q hq => by have := H6L q hq; omega
    have HB7 := hid ((HB6.out.alloc (by omega) (.cells #[.int .i64 4, .int .i64 0, .int .i64 0, .int .i64 0] 24)).grown hgrow7 (by simp; omega) h6b)
    have hap : ∀ q, blk a7 = some q → q ≠ G := fun q hq e => own_apart HO7.out HQ7.out (by decide) q hq (by rw [e]; rfl)
    have hE : (xs ++ [fence]).length = m + 1 := by rw [List.length_append, ← HM.out]; rfl
    have HP8 := hid (show RdP (w7.setCell ⟨G, 0, none⟩ (.slice a7 (m + 1) c7)) (some ⟨G, 0, none⟩) (p.set 0 (xs ++ [fence])) by
      have := RdP.copySet (w0 := w4) (w := w7) (base := w.heap.size) (p := p) (xs := xs) (ys := xs ++ [fence]) (rs := rs) (G := G) (c := c5) (r := a7) (rc := c7) HRL.out HI.out HB7.out (by rw [← HN.out]; exact HQ7.out) hG (by rw [← HN.out]; exact hn0)
      rw [hE] at this
      exact this (Rd.own (own_keeps HO7.out (Keeps.setCell w7 ⟨G, 0, none⟩ _) (fun q hq => hap q hq))) (own_cap HO7.out))
    obtain ⟨z, hz⟩ : ∃ z, w7.cell? ⟨G, 0, none⟩ = some z := ⟨_, (HQ7.out.cellAt 0 (by omega)).trans (List.getElem?_eq_getElem (by rw [HCR.out]; omega))⟩
    have hfr := HQ7.out.frozenAt 0
    have HB8 := hid (HB4.out.trans ((HB7.out.setCell (p := ⟨G, 0, none⟩) hG (.slice a7 (m + 1) c7)).mono hsk))
    have hLP : (p.set 0 (xs ++ [fence])).length = n := by rw [List.length_set, ← HN.out]
    have hZP : sizeP (p.set 0 (xs ++ [fence])) ≤ 1048576 := by rw [sizeP_set fence HX.out]; omega
    have HVQ := hid (fun w h => pvI_c w (some ⟨G, 0, none⟩) c5 (p.set 0 (xs ++ [fence])) h hZP)
    have HCQ := hid (fun w h => ceI_c w (some ⟨G, 0, none⟩) c5 (p.set 0 (xs ++ [fence])) h hZP)
    obtain ⟨U, hU⟩ : ∃ U, U = progValid (p.set 0 (xs ++ [fence])) := ⟨_, rfl⟩
    rw [← hU] at HVQ
    rw [hLP] at HVQ HCQ
    have hCE : U = true → countExecs (p.set 0 (xs ++ [fence])) = N := fun hu => by
      have hpx : p = xs :: p.tail := by
        have := HX.out
        cases p with
        | nil => simp at this
        | cons y r => simp at this; rw [this]; rfl
      rw [HNN.out]
      unfold countExecs
      rw [← hU, hu, if_pos rfl, if_pos HV.out.symm]
      rw [hpx]
      exact prodP_fence xs p.tail
    have HCE := hid hCE
    clear hU hCE hLP hE hap h6b hown7 hgrow7 hat7
    go_wp2_with fail
    refine (HVQ.out _ HP8.out).mono ?_
    rintro e w9 ⟨rfl, hb9⟩
    have HP9 := hid (HP8.out.below hb9)
    have HB9 := hid (HB8.out.trans (hb9.mono HB8.out.size))
    clear hb9
    cases U
    · go_wp2_with fail
      go_ret
      exact ⟨rfl, HB9.out⟩
    · have hce := (show countExecs (p.set 0 (xs ++ [fence])) = N by simpa using HCE.out)
      rw [hce] at HCQ
      clear hce
      go_wp2_with fail
      refine (HCQ.out _ HP9.out).mono ?_
      rintro e w10 ⟨rfl, hb10⟩
      have HB10 := hid (HB9.out.trans (hb10.mono HB9.out.size))
      clear hb10
      go_wp2_with fail
      go_ret
      exact ⟨rfl, HB10.out⟩
theorem walk (w : World) (a0 : Option Addr) (cap0 : Nat) (bs0 : List Int) (h0 : Rd w a0 (u8s bs0)) (f0 : ∀ n ∈ bs0, (Lit.int .u8 n).wf = true) (d0 : bs0.length ≤ cap0 ∧ cap0 ≤ 9223372036854775807) :
    Calls Try.prog 5 #[.slice a0 bs0.length cap0] w fun e w' => e = .returned (.bool true) ∧ Below w.heap.size w w' := by
  by_cases hb : 1048576 < bs0.length
  · exact walkBig w a0 cap0 bs0 h0 f0 d0 hb
  · exact walkSmall w a0 cap0 bs0 h0 f0 d0 (by omega)

set_option maxRecDepth 100000 in
theorem lifted (os : Os) (started : os.Started) (H : Type) (enc : TypeId × Value → H) :
    ReturnsInHanded {} Try.checked os 5 .any (Rows.fnCountExecsSpec.pre6 enc Try.prog Try.f5 Rows.fnCountExecsRow.domain false) (Rows.fnCountExecsSpec.post enc Try.prog Try.f5 false true false false) := by
  refine returnsInHanded_of_change (C := Try.checked) own started (by kernel_rfl) Try.func5
    (ChangeSpec.witness6 (enc := enc) (C := Try.checked) false ⟨#[], #[.slice none 0 0], []⟩ 8 (by kernel_rfl) (by kernel_rfl) (by kernel_rfl) (by kernel_rfl)) ?_
  intro W base args ds gs before hval0 hW hcnd _
  have hval : ∀ (j : Nat) t v, Try.f5.params[j]? = some t → args[j]? = some v → Value.okWide Try.prog W .any base t v := hval0
  have hW' := hW
  obtain ⟨p, q, hA0, hV, rfl, hfz, hnd⟩ := hW
  have hA : DataW.TrodAll enc Try.prog W 0 (fun _ => true) true Try.f5.params.toList args.toList ds p := hA0
  rw [Try.params5] at hA hval
  obtain ⟨v0, vs0, d0, ds0, p0, q0, hargs, rfl, rfl, h0, r0⟩ := trodAll_cons hA
  obtain ⟨rfl, rfl, rfl⟩ := trodAll_nil r0
  obtain rfl : args = #[v0] := by cases args; simp_all
  obtain ⟨rfl, rfl⟩ := trodVars_none hV
  obtain ⟨a0, len0, cap0, rfl⟩ := okWide_slice Try.underlying22 (hval 0 22 v0 rfl rfl)
  have k0 := h0
  have lt0 : ∀ x ∈ p0, x.block < W.heap.size := by obtain ⟨m, hm⟩ := k0; exact DataW.trod_lt m _ _ _ hm
  obtain ⟨z0, w0⟩ : ∃ zs, IsRow .u8 W a0 len0 cap0 zs := by
    obtain ⟨fuel, hf⟩ := h0
    rcases open_ints Try.underlying22 Try.underlying5 (by kernel_rfl) hf with ⟨hcs, _⟩ | ⟨x, l, c, zs, hcs, _, hl, hm, hz, _, hcell, hwz⟩
    · simp [Value.cells] at hcs
      obtain ⟨rfl, rfl, rfl⟩ := hcs
      exact ⟨[], .inl ⟨rfl, rfl, rfl, rfl⟩⟩
    · simp [Value.cells] at hcs
      obtain ⟨rfl, rfl, rfl⟩ := hcs
      exact ⟨zs, .inr ⟨_, rfl, hl, hm, by simpa using hz, hcell, hwz⟩⟩
  obtain ⟨x0, hx0, rd0, wf0⟩ := w0.rd
  subst hx0
  have bd0 := w0.cap
  clear hA0 hval0
  refine (walk W a0 cap0 x0 rd0 wf0 bd0).mono fun e W' ⟨he, bel⟩ => ?_
  subst he
  exact ⟨_, rfl, _, _, _, [], _, [], hW', trodAll_mk1 (shut_bool Try.underlying4 _), (trodAll_cons_mk (Below.trod laidOut (by kernel_rfl) (of_decide_eq_true (by kernel_rfl)) k0 bel lt0) trodAll_mk0), rfl, bel.frame _, fun h => by cases h⟩

theorem over : Rows.fnCountExecsRow.holds Try.pinned (OpenSpec.ofChange Rows.fnCountExecsSpec) :=
  OpenClaim.holds_of_wide 5 Try.f5 rfl rfl rfl rfl rfl rfl rfl ⟨rfl, rfl, rfl, rfl, rfl⟩ rfl rfl rfl rfl rfl (by kernel_rfl) Try.func5 (by kernel_rfl)
    (of_decide_eq_true (by kernel_rfl)) (by unfold Func.isWrapper; first | (rw [if_pos (by decide +kernel)]; kernel_rfl) | (rw [if_neg (by decide +kernel)]; exact ⟨rfl, rfl⟩))
    (fun os started H enc _ => lifted os started H enc)

theorem proved : Rows.FnCountExecsSaid := over
#print axioms proved
end Go.Proofs.Ytciplfdgjbehgaa.fnCountExecs
