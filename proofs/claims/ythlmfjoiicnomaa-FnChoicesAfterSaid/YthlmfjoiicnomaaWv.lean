/-
  PROVED HERE: what (*views).done and outcome do. CONDITIONS: as each theorem states.
-/
import Derived.Test.YthlmfjoiicnomaaWr
namespace Go.Proofs.Ythlmfjoiicnomaa
open Go.RowKit
set_option linter.unusedVariables false
set_option linter.unusedSimpArgs false

set_option maxHeartbeats 1600000 in
theorem vDone_c (w : World) (g : Nat) (p : Prg) (s : Vs) (h : VwAt w g p s) (hv : Shape p) :
    Calls Try.prog 131 #[.pointer (some ⟨g, 0, none⟩)] w fun e w' => e = .returned (.bool (done5 p s)) ∧ Below w.heap.size w w' := by
  have HD := hid (allDone_c w g p s.st h.v hv)
  clear h
  go_enter Try.func131, Try.ntmps131
  go_wp2_with fail
  refine HD.out.mono ?_
  rintro e w1 ⟨rfl, hb1⟩
  have HB1 := hid hb1
  clear hb1
  go_wp2
  go_ret
  exact ⟨rfl, HB1.out⟩
/-- The values, k of whose locations hold what was written last. -/
def memK (s : Vs) (k : Nat) : List Int := (last5 s).take k ++ s.st.mem.drop k
theorem memK_step {s : Vs} {k : Nat} {v : Int} (h : (last5 s)[k]? = some v) (hk : k < s.st.mem.length) : (memK s k).set k v = memK s (k + 1) := by
  have hlt := (List.getElem?_eq_some_iff.1 h).1
  unfold memK
  rw [List.set_append_right _ _ (by simp; omega), List.take_add_one, h, List.length_take, Nat.min_eq_left (Nat.le_of_lt hlt), Nat.sub_self]
  rw [show s.st.mem.drop k = s.st.mem[k] :: s.st.mem.drop (k + 1) from List.drop_eq_getElem_cons hk, List.set_cons_zero, List.append_assoc]
  rfl
abbrev z16' : Array Value := #[.slice none 0 0, .int .u8 0, .int .u8 0, .int .u8 0, .int .u8 0, .int .u8 0, .int .u8 0, .int .u8 0, .int .u8 0, .int .u8 0, .int .u8 0, .int .u8 0, .int .u8 0, .int .u8 0, .int .u8 0, .int .u8 0]
set_option maxRecDepth 100000 in
set_option maxHeartbeats 1600000 in
theorem vOutcome_c (w : World) (g : Nat) (p : Prg) (s : Vs) (h : VwAt w g p s) (hv : Shape p) :
    Calls Try.prog 134 #[.pointer (some ⟨g, 0, none⟩)] w (RetL w (out5 s)) := by
  have hgd := h.good
  have HAT := hid h
  have hvl := hgd.good.vlen hv
  have hml := hgd.good.meml
  have hll : (last5 s).length = 3 := by unfold last5; rw [List.length_map, hgd.ll]
  have hlb : ∀ v ∈ last5 s, 0 ≤ v ∧ v ≤ 3 := fun v hm => by
    unfold last5 at hm
    obtain ⟨r, hr, rfl⟩ := List.mem_map.1 hm
    have hp := (hgd.last r hr).1
    have : r.getD (r.length - 1) msZ ∈ r := by
      rw [List.getD_eq_getElem?_getD, List.getElem?_eq_getElem (by omega)]
      exact List.getElem_mem _
    exact (hgd.mok r hr _ this).1
  have HGS := hid (show Good p { s.st with mem := last5 s } from ⟨hgd.good.pcl, hgd.good.regl, hll, hgd.good.pcb, hgd.good.regb, hlb⟩)
  have HOU := hid (fun w B (h : VAt w B p { s.st with mem := last5 s }) => outcome_c w B p _ h hv)
  have HOE := hid (show out3 { s.st with mem := last5 s } = out5 s from rfl)
  have HLA := hid (fun l (hl : l < 3) => show (last5 s)[l]? = some ((row5 s l).getD ((row5 s l).length - 1) msZ).val from by
    unfold last5
    rw [List.getElem?_map, hgd.row hl]
    rfl)
  have HV3 := hid (fun l hl => hgd.v3 (l := l) hl)
  have HRP := hid (fun l (hl : l < 3) => (hgd.rpos hl).1)
  have HML := hid hml
  have HVL := hid (show ∀ k, k ≤ 3 → ValLen { s.st with mem := memK s k } from fun k hk => ⟨hvl.pc, hvl.regs, by show (memK s k).length = 3; unfold memK; simp [hll, hml]; omega⟩)
  have HRL := hid (fun l (hl : l < 3) => hgd.rowlen hv hl)
  obtain ⟨⟨a, cap, Lz, hg, hrp, hrow⟩, _⟩ := h
  have HP := hid hrp
  have HROW := hid hrow
  have hgl : g < w.heap.size := (Array.getElem?_eq_some_iff.1 hg).1
  have hhl := length_valC (a := a) (n := p.length) (cap := cap) hvl
  have HMD := hid (show w.rangeAt g 0 (valC a p.length cap s.st) from fun j v hj => by rw [Nat.zero_add]; exact cell_L hg (vwC_hd hhl hj))
  have HMD2 := hid (show (w.alloc (.cells z16' 106)).rangeAt g 0 (valC a p.length cap s.st) from World.rangeAt_alloc HMD.out _)
  have cA := fun (w' : World) (hb : Below w.heap.size w w') (l : Nat) (hl : l < 3) => (hb.cell (p := ⟨g, 16 + l, none⟩) hgl).trans (cell_L hg (vwC_l (L := Lz) (N := fun l => (row5 s l).length) (U := padV s.view) hhl hl))
  have HSZ := hid (show (Try.prog.info? 106).map (·.size) = some (valC a p.length cap s.st).length from by rw [hhl]; kernel_rfl)
  have HSA := hid (show (Try.prog.info? 106).map (·.size) = some (valC a p.length cap s.st).toArray.size from by rw [List.size_toArray, hhl]; kernel_rfl)
  have HS16 := hid (show z16'.size = (valC a p.length cap s.st).toArray.size from by
    have e : (valC a p.length cap s.st).toArray.size = 16 := by rw [List.size_toArray]; exact hhl
    rw [e]; rfl)
  have HONE := hid (all_oneCell_toArray (valC_one a p.length cap s.st))
  have HM0 := hid (show valC a p.length cap s.st = valC a p.length cap { s.st with mem := memK s 0 } from rfl)
  obtain ⟨VC, hVC⟩ : ∃ VC, VC = valC a p.length cap s.st := ⟨_, rfl⟩
  rw [← hVC] at HMD HMD2 HSZ HSA HS16 HONE HM0
  have HB1 := hid (show Below w.heap.size w ((w.alloc (.cells z16' 106)).setRow w.heap.size VC.toArray) from Proofs.Ythlmfjoiicnomaa.Below.keeps ((Below.refl w.heap.size w).alloc (Nat.le_refl _) (.cells z16' 106)) (keeps_setRow _ w.heap.size VC.toArray) (by simp) (fun k e => by omega))
  have c0 := cA _ HB1.out 0 (by decide)
  have c1 := cA _ HB1.out 1 (by decide)
  have c2 := cA _ HB1.out 2 (by decide)
  have HH1 := hid (show ((w.alloc (.cells z16' 106)).setRow w.heap.size VC.toArray).heap[w.heap.size]? = some (.cells VC.toArray 106 (0, 0)) from setRow_heap _ _ _ _ _ _ (heap_alloc_new w _))
  have HIX := hid (fun (w : World) j (hj : j < 3) => run_indexL w Lz (fun l => (row5 s l).length) j hj)
  clear hg hrow hrp hgd hvl hml hll hlb hhl hVC cA hv
  go_enter Try.func134, Try.ntmps134
  go_wp2_with (first | (refine wpList_load_mid rfl 106 (.tmp 8) rfl g 0 rfl VC _ HMD.out Try.underlying106 rfl HSZ.out ?_) | (refine wpList_load_mid rfl 106 (.tmp 8) rfl g 0 rfl VC _ HMD2.out Try.underlying106 rfl HSZ.out ?_) | (refine wpList_store_row rfl 106 (.tmp 3) (.tmp 9) rfl w.heap.size VC.toArray rfl rfl 106 _ (heap_alloc_new w _) HSA.out HS16.out HONE.out ?_))
  obtain ⟨B, hB⟩ : ∃ B, B = w.heap.size := ⟨_, rfl⟩
  obtain ⟨w1, hw1⟩ : ∃ w1, w1 = (w.alloc (.cells z16' 106)).setRow w.heap.size VC.toArray := ⟨_, rfl⟩
  rw [← hw1] at HB1 HH1 ⊢
  rw [← hB] at HH1 ⊢
  have hBle : w.heap.size ≤ B := by omega
  have hgB : g ≠ B := by omega
  clear c0 c1 c2 hw1 hB HMD2
  rw [HM0.out] at HH1
  go_loopw [4, 5, 14] (fun _ _ i wx => ∃ l : Nat, l ≤ 3 ∧ i = .int .i64 l ∧ Hid (wx.heap[B]? = some (.cells (valC a p.length cap { s.st with mem := memK s l }).toArray 106 (0, 0))) ∧ Hid (Below w.heap.size w wx)) (fun _ _ i _ => 3 - (intOf i).toNat)
  case atStart => exact ⟨0, by omega, rfl, HH1, HB1⟩
  case round =>
    clear HH1 HB1
    obtain ⟨l, hl, rfl, HH, HB⟩ := hrel
    by_cases hlt : l < 3
    · have hlt' : (l : Int) < 3 := by omega
      have hrl := HRP.out l hlt
      have hr24 := HRL.out l hlt
      obtain ⟨N, hN⟩ : ∃ N, (row5 s l).length = N + 1 := ⟨(row5 s l).length - 1, by omega⟩
      have hN24 : N ≤ 30 := by omega
      have hla := HLA.out l hlt
      obtain ⟨rb, ro, hra, hrbw, hrc⟩ : ∃ rb ro, (Lz l).1 = some ⟨rb, ro, none⟩ ∧ rb < w.heap.size ∧ ∀ j v, (wcells (row5 s l))[j]? = some v → w.cell? ⟨rb, ro + j, none⟩ = some v := by
        have h0 := (HROW.out l hlt).1
        have hlw := wcells_len (HV3.out l hlt)
        rcases h0 with h | ⟨b, off, e, h1, h2⟩
        · rw [h] at hlw; simp at hlw; omega
        · exact ⟨b, off, e, h1, h2⟩
      have hm : (row5 s l)[N]? = some ((row5 s l).getD N msZ) := by
        rw [List.getD_eq_getElem?_getD, List.getElem?_eq_getElem (by omega)]; rfl
      rw [hN, Nat.add_sub_cancel] at hla
      obtain ⟨v, hv⟩ : ∃ v, v = ((row5 s l).getD N msZ).val := ⟨_, rfl⟩
      have q0 := hrc (N * 5) _ ((wcells_get (HV3.out l hlt) hm (j := 0) (by decide)).trans (by rw [wcell]; rfl))
      rw [← hv] at q0 hla
      have q1 := (HB.out.cell (p := ⟨rb, ro + N * 5, none⟩) hrbw).trans q0
      have hix := fun w => HIX.out w l hlt
      rw [hra, hN] at hix
      obtain ⟨lc, hlc⟩ : ∃ lc, lc = (Lz l).2 := ⟨_, rfl⟩
      rw [← hlc] at hix
      have hvl := HVL.out l (by omega)
      obtain ⟨mo, hmo⟩ : ∃ mo, (memK s l)[l]? = some mo := ⟨_, List.getElem?_eq_getElem (by have := hvl.mem; show l < (memK s l).length; have e : (memK s l).length = 3 := hvl.mem; omega)⟩
      have c13 := cell_L HH.out (valC_mem (a := a) (n := p.length) (cap := cap) hvl hmo)
      have f13 := frozen_of_row wr B (13 + l) _ _ HH.out
      have HH2 := hid (show (wr.setCell ⟨B, 13 + l, none⟩ (.int .u8 v)).heap[B]? = some (.cells (valC a p.length cap { s.st with mem := memK s (l + 1) }).toArray 106 (0, 0)) from by
        rw [heap_setL HH.out, valC_setmem hvl]
        show some (Obj.cells (valC a p.length cap { s.st with mem := (memK s l).set l v }).toArray 106 (0, 0)) = _
        rw [memK_step hla (by rw [HML.out]; exact hlt)])
      have HB2 := hid (HB.out.setCell (p := ⟨B, 13 + l, none⟩) hBle (.int .u8 v))
      clear hv hm hN hra hlc hrc q0 hla hvl hmo
      go_wp2_with fail
      go_roundw
      case rel => exact ⟨l + 1, by omega, by go_num, HH2, HB2⟩
      case measure => simp [intOf]; omega
    · have hl3n : ¬ ((l : Int) < 3) := by omega
      have HVT := hid (show VAt wr B p { s.st with mem := last5 s } from by
        have e : l = 3 := by omega
        have hh := HH.out
        rw [e] at hh
        have e2 : memK s 3 = last5 s := by
          unfold memK
          rw [List.take_of_length_le (by have := (HGS.out).meml; exact Nat.le_of_eq this), List.drop_of_length_le (by rw [HML.out]; exact Nat.le_refl 3), List.append_nil]
        rw [e2] at hh
        exact ⟨⟨a, cap, [], 106, by rw [List.append_nil]; exact hh, HP.out.below HB.out⟩, HGS.out⟩)
      have HOO := hid (HOU.out wr B HVT.out)
      rw [HOE.out] at HOO
      go_wp2_with fail
      refine HOO.out.mono ?_
      rintro e w3 ⟨a3, c3, rfl, ho3, hb3⟩
      have HO3 := hid ho3
      have HB3 := hid (HB.out.trans (hb3.mono HB.out.size))
      have hss := HB.out.size
      clear ho3 hb3
      go_wp2
      go_ret
      exact ⟨a3, c3, rfl, own_base HO3.out hss, HB3.out⟩
end Go.Proofs.Ythlmfjoiicnomaa
