/-
  PROVED HERE: what spec.ParseProgram does. CONDITIONS: as each theorem states.
-/
import Derived.Test.YthlmfjoiicnomaaPar
import Derived.Test.YthlmfjoiicnomaaCut
import Derived.Test.YthlmfjoiicnomaaCpy
import Derived.Test.YthlmfjoiicnomaaTxp
import Derived.Test.YthlmfjoiicnomaaVav
namespace Go.Proofs.Ythlmfjoiicnomaa
open Go.RowKit
set_option linter.unusedVariables false
set_option linter.unusedSimpArgs false

def parTo (t : List UInt8) (j : Nat) : List Ins := ((cutL 59 t).take j).map fun l => parI (ba l)
def parRow (t : List UInt8) : List Ins := if t = [] then [] else parTo t 8
def parsTo (s : ByteArray) (k : Nat) : Prg := ((cutL 124 (bytS s)).take k).map parRow
def parsP (s : ByteArray) : Prg := parsTo s 4
def parRes (s : ByteArray) : Prg × Bool := if progValid (parsP s) = true ∧ ba (prgL (parsP s)) = s then (parsP s, true) else ([], false)
abbrev RetPB (w : World) (r : Prg × Bool) (e : Ending) (w' : World) : Prop :=
  ∃ a cap, e = .returned (.tuple #[.slice a r.1.length cap, .bool r.2]) ∧ OwP w' w.heap.size w'.heap.size a cap r.1 ∧ Below w.heap.size w w'
def JOk (j : Nat) (t : List UInt8) : Prop := j = 0 ∨ t ≠ []
theorem parTo_succ {t : List UInt8} {j : Nat} {l : List UInt8} (h : (cutL 59 t)[j]? = some l) : parTo t (j + 1) = parTo t j ++ [parI (ba l)] := by
  obtain ⟨hj, rfl⟩ := List.getElem?_eq_some_iff.1 h
  unfold parTo
  rw [List.take_succ_eq_append_getElem hj, List.map_append]
  rfl
theorem parsTo_succ {s : ByteArray} {k : Nat} {t : List UInt8} (h : (cutL 124 (bytS s))[k]? = some t) : parsTo s (k + 1) = parsTo s k ++ [parRow t] := by
  obtain ⟨hj, rfl⟩ := List.getElem?_eq_some_iff.1 h
  unfold parsTo
  rw [List.take_succ_eq_append_getElem hj, List.map_append]
  rfl
theorem parTo_len (t : List UInt8) (j : Nat) : (parTo t j).length ≤ j := by unfold parTo; rw [List.length_map]; exact List.length_take_le _ _
theorem parsTo_len (s : ByteArray) (j : Nat) : (parsTo s j).length ≤ j := by unfold parsTo; rw [List.length_map]; exact List.length_take_le _ _
theorem parTo_end (t : List UInt8) {j : Nat} (hj : j ≤ 8) (h : j = (cutL 59 t).length ∨ j = 8) : parTo t j = parTo t 8 := by
  rcases h with h | h
  · unfold parTo
    rw [List.take_of_length_le (by omega), List.take_of_length_le (by omega)]
  · rw [h]
theorem parsTo_end (s : ByteArray) {j : Nat} (hj : j ≤ 4) (h : j = (cutL 124 (bytS s)).length ∨ j = 4) : parsTo s j = parsP s := by
  unfold parsP
  rcases h with h | h
  · unfold parsTo
    rw [List.take_of_length_le (by omega), List.take_of_length_le (by omega)]
  · rw [h]
theorem parsP_size (s : ByteArray) : sizeP (parsP s) ≤ 1048576 := by
  have h1 : ∀ l : List (List UInt8), ((l.map parRow).map List.length).sum ≤ 8 * l.length := by
    intro l
    induction l with
    | nil => simp
    | cons x l ih =>
      have : (parRow x).length ≤ 8 := by
        unfold parRow
        split
        · simp
        · exact parTo_len _ _
      simp only [List.map_cons, List.sum_cons, List.length_cons]
      omega
  have h2 := h1 ((cutL 124 (bytS s)).take 4)
  have h3 := List.length_take_le 4 (cutL 124 (bytS s))
  have h4 : (parsP s).length ≤ 4 := parsTo_len s 4
  have h5 : parsP s = ((cutL 124 (bytS s)).take 4).map parRow := rfl
  unfold sizeP
  rw [← h5] at h2
  omega
theorem cutL_size (c : UInt8) (l : List UInt8) {k : Nat} {x : List UInt8} (h : (cutL c l)[k]? = some x) : x.length ≤ l.length := cut_size c l _ x (List.mem_of_getElem? h)
theorem cutL_len (c : UInt8) (l : List UInt8) : (cutL c l).length ≤ l.length + 1 := (cut_le c l _).2
theorem bytS_ba (l : List UInt8) : bytS (ba l) = l := by simp [bytS, ba]
theorem sL_get {ls : List (List UInt8)} {k : Nat} {x : List UInt8} (h : ls[k]? = some x) : (sL ls)[k]? = some (.string (ba x)) := by simp [sL, h]
/-- A row of texts: its cell k. -/
theorem own_str {w : World} {base n cap : Nat} {a : Option Addr} {ls : List (List UInt8)} (h : w.ownsRow base 9 1 (.slice a n cap) n (sL ls)) {k : Nat} {x : List UInt8} (hx : ls[k]? = some x) : ∃ g, a = some ⟨g, 0, none⟩ ∧ g < w.heap.size ∧ w.cell? ⟨g, k, none⟩ = some (.string (ba x)) := by
  have hl := h.1
  have hk := (List.getElem?_eq_some_iff.1 hx).1
  rw [length_sL] at hl
  obtain ⟨g, rfl, _, hlt⟩ := own_some h (by omega)
  exact ⟨g, rfl, hlt, (h.cellAt k (by omega)).trans (sL_get hx)⟩
theorem ba_empty {t : List UInt8} : ((ba t).toList == (⟨#[]⟩ : ByteArray).toList) = decide (t = []) := by
  rw [ByteArray.toList_eq, ByteArray.toList_eq]
  show (t.toArray.toList == #[].toList) = _
  cases t <;> simp

set_option maxHeartbeats 3200000 in
theorem ppS_c (w : World) (s : ByteArray) (hs : s.size ≤ 1048576) : Calls Try.prog 59 #[.string s] w (RetPB w (parRes s)) := by
  obtain ⟨TS, hTS⟩ : ∃ TS, TS = cutL 124 (bytS s) := ⟨_, rfl⟩
  obtain ⟨n, hn⟩ : ∃ n, n = TS.length := ⟨_, rfl⟩
  have hn1 : n ≤ 1048577 := by rw [hn, hTS]; have := cutL_len 124 (bytS s); rw [size_bytS] at this; omega
  have HCUT := hid (fun w => l17Cut_c w s 124 (by decide) (by omega))
  have HTS := hid hTS
  have HN := hid hn
  have HSUC := hid (fun k t (h : TS[k]? = some t) => parsTo_succ (s := s) (k := k) (t := t) (by rw [← hTS]; exact h))
  have HTL := hid (fun k (t : List UInt8) (h : TS[k]? = some t) => (show t.length ≤ 1048576 by have := cutL_size 124 (bytS s) (k := k) (x := t) (by rw [← hTS]; exact h); rw [size_bytS] at this; omega))
  have HEND := hid (fun j hj (h : j = n ∨ j = 4) => parsTo_end s (j := j) hj (by rw [← hTS, ← hn]; exact h))
  have HPLEN := hid (fun k (h : k ≤ n) => (show (parsTo s k).length = k by unfold parsTo; rw [List.length_map, ← hTS, List.length_take]; omega))
  have HPS := hid (parsP_size s)
  have H0 := hid (show parsTo s 0 = [] by simp [parsTo])
  have HP0 := hid (OwP.nil w w.heap.size 30 (Nat.le_refl _) rfl)
  have HB0 := hid ((Below.refl w.heap.size w).alloc (Nat.le_refl _) (.cells #[] 30))
  have e124 : UInt8.ofNat 124 = 124 := rfl
  rw [e124, ← hTS, ← hn] at HCUT
  clear hTS hn e124
  go_enter Try.func59, Try.ntmps59
  go_wp2_with fail
  refine (HCUT.out _).mono ?_
  rintro e w1 ⟨ta, tcap, rfl, ht1, hb1⟩
  have HT1 := hid (own_base ht1 (show w.heap.size ≤ _ by simp))
  have HB1 := hid (HB0.out.trans (hb1.mono (by simp)))
  have HP1 := hid (OwP.up (HP0.out.below hb1) (show w.heap.size + 1 ≤ w1.heap.size by have := hb1.size; simp at this; omega))
  clear ht1 hb1
  go_wp2_with fail
  go_loopw [4, 6] (fun v i wr => ∃ k : Nat, k ≤ n ∧ k ≤ 4 ∧ i = .int .i64 k ∧ (∃ b cap, v = .slice b k cap ∧ Hid (OwP wr w.heap.size wr.heap.size b cap (parsTo s k))) ∧ Hid (wr.ownsRow w.heap.size 9 1 (.slice ta n tcap) n (sL TS)) ∧ Hid (Below w.heap.size w wr)) (fun _ i _ => 4 - (intOf i).toNat)
  case atStart => exact ⟨0, Nat.zero_le _, by omega, rfl, ⟨_, _, rfl, by rw [H0.out]; exact HP1⟩, HT1, HB1⟩
  case round =>
    obtain ⟨k, hk, hk4, rfl, ⟨b, cap, rfl, HP⟩, HT, HB⟩ := hrel
    obtain ⟨wo, rfl⟩ : ∃ wo : World, wo = wr := ⟨_, rfl⟩
    have hbs := HB.out.size
    have HPL := hid (HPLEN.out k hk)
    by_cases hc : k < n ∧ k ≤ 3
    · obtain ⟨hlt, hk3⟩ := hc
      obtain ⟨t, ht⟩ : ∃ t, TS[k]? = some t := ⟨_, List.getElem?_eq_getElem (by rw [← HN.out]; exact hlt)⟩
      obtain ⟨tg, htg, _, htc⟩ := own_str HT.out ht
      subst htg
      have hk1 : (k : Int) < (n : Int) := by omega
      have hk2 : (k : Int) ≤ 3 := by omega
      have htl := HTL.out k t ht
      have HSK := hid (HSUC.out k t ht)
      have HTK := hid ht
      have HW := hid (fun w => l17Cut_c w (ba t) 59 (by decide) (by show t.toArray.size ≤ _; simp; omega))
      obtain ⟨WS, hWS⟩ : ∃ WS, WS = cutL 59 t := ⟨_, rfl⟩
      obtain ⟨m, hm⟩ : ∃ m, m = WS.length := ⟨_, rfl⟩
      have e59 : UInt8.ofNat 59 = 59 := rfl
      rw [e59, bytS_ba, ← hWS, ← hm] at HW
      have hm1 : m ≤ 1048577 := by rw [hm, hWS]; have := cutL_len 59 t; omega
      have HPTL' := hid (fun j (h : j ≤ m) => (show (parTo t j).length = j by unfold parTo; rw [List.length_map, ← hWS, List.length_take]; omega))
      have HSJ := hid (fun j l (h : WS[j]? = some l) => parTo_succ (t := t) (j := j) (l := l) (by rw [← hWS]; exact h))
      have HWL := hid (fun j (l : List UInt8) (h : WS[j]? = some l) => (show l.length ≤ 1048576 by have := cutL_size 59 t (k := j) (x := l) (by rw [← hWS]; exact h); omega))
      have HENJ := hid (fun j hj (h : j = m ∨ j = 8) => parTo_end t (j := j) hj (by rw [← hWS, ← hm]; exact h))
      have HMS := hid hm
      have HO0 := hid (own_lit0 wo w.heap.size 70 4 hbs)
      have HBa := hid (HB.out.alloc hbs (.cells #[] 70))
      have HTa := hid (HT.out.alloc (.cells #[] 70))
      have HPa := hid (HP.out.below ((Below.refl _ _).alloc (Nat.le_refl _) (.cells #[] 70)))
      have HJ00 := hid (show JOk 0 t from .inl rfl)
      have HL00 := hid (show parTo t 0 = [] by simp [parTo])
      clear ht hWS hm e59
      go_wp2_with fail
      refine (HW.out _).mono ?_
      rintro e w1 ⟨wa, wcap, rfl, hw1, hb1⟩
      have HW1 := hid (own_base hw1 (show w.heap.size ≤ _ by simp; omega))
      have HB1 := hid (HBa.out.trans (hb1.mono HBa.out.size))
      have HT1 := hid (own_below HTa.out hb1)
      have HP1 := hid (HPa.out.below hb1)
      have HL1 := hid (own_below HO0.out hb1)
      have HS1 := hid (show wo.heap.size ≤ w1.heap.size by have := hb1.size; simp at this; omega)
      clear hw1 hb1 htc
      go_wp2_with fail
      go_loopw [7, 9] (fun v i wr => ∃ j : Nat, j ≤ m ∧ j ≤ 8 ∧ i = .int .i64 j ∧ Hid (JOk j t) ∧ (∃ a0 c0, v = .slice a0 j c0 ∧ Hid (wr.ownsRow w.heap.size 70 4 (.slice a0 j c0) j (insV (parTo t j))) ∧ Hid (∀ q, blk a0 = some q → wo.heap.size ≤ q)) ∧ Hid (wr.ownsRow w.heap.size 9 1 (.slice wa m wcap) m (sL WS)) ∧ Hid (wr.ownsRow w.heap.size 9 1 (.slice (some ⟨tg, 0, none⟩) n tcap) n (sL TS)) ∧ Hid (OwP wr w.heap.size wo.heap.size b cap (parsTo s k)) ∧ Hid (wo.heap.size ≤ wr.heap.size) ∧ Hid (Below w.heap.size w wr)) (fun _ i _ => 8 - (intOf i).toNat)
      case atStart => exact ⟨0, Nat.zero_le _, by omega, rfl, HJ00, ⟨_, _, rfl, by rw [HL00.out]; exact HL1, hid (fun q hq => by simp [blk] at hq; omega)⟩, HW1, HT1, HP1, HS1, HB1⟩
      case round =>
        obtain ⟨j, hj, hj8, rfl, HJ0, ⟨a0, c0, rfl, HL, HLT⟩, HWr, HTr, HPr, HSr, HBr⟩ := hrel
        obtain ⟨w2, rfl⟩ : ∃ w2 : World, w2 = wr := ⟨_, rfl⟩
        have hbs2 := HBr.out.size
        have htc2 : w2.cell? ⟨tg, k, none⟩ = some (.string (ba t)) := (HTr.out.cellAt k (by omega)).trans (sL_get HTK.out)
        have HPTL := hid (HPTL'.out j hj)
        by_cases hcj : (j < m ∧ j ≤ 7) ∧ t ≠ []
        · obtain ⟨⟨hjm, hj7⟩, hte⟩ := hcj
          obtain ⟨l, hl⟩ : ∃ l, WS[j]? = some l := ⟨_, List.getElem?_eq_getElem (by rw [← HMS.out]; exact hjm)⟩
          obtain ⟨wg, hwg, _, hwc⟩ := own_str HWr.out hl
          subst hwg
          have i1 : (j : Int) < (m : Int) := by omega
          have i2 : (j : Int) ≤ 7 := by omega
          have HTE := hid hte
          have e0 : ((ba t).toList.isEmpty) = false := by
            rw [ByteArray.toList_eq]
            show t.isEmpty = false
            cases t with
            | nil => exact absurd rfl hte
            | cons _ _ => rfl
          have HPI := hid (fun w => l1Parse_c w (ba l) (by have := HWL.out j l hl; show l.toArray.size ≤ _; simp; omega))
          have HSJ1 := hid (HSJ.out j l hl)
          obtain ⟨x, hx⟩ : ∃ x, x = parI (ba l) := ⟨_, rfl⟩
          rw [← hx] at HPI HSJ1
          clear hl hx hte
          go_wp2_with fail
          refine (HPI.out _).mono ?_
          rintro e w3 ⟨rfl, hb3⟩
          have HW3 := hid ((own_below HWr.out hb3).alloc (.cells #[.int .i64 x.op, .int .i64 x.loc, .int .i64 x.reg, .int .i64 x.val] 70))
          have HT3 := hid ((own_below HTr.out hb3).alloc (.cells #[.int .i64 x.op, .int .i64 x.loc, .int .i64 x.reg, .int .i64 x.val] 70))
          have HP3 := hid ((HPr.out.below hb3).below ((Below.refl _ _).alloc (Nat.le_refl _) (.cells #[.int .i64 x.op, .int .i64 x.loc, .int .i64 x.reg, .int .i64 x.val] 70)))
          have HL3 := hid ((own_below HL.out hb3).alloc (.cells #[.int .i64 x.op, .int .i64 x.loc, .int .i64 x.reg, .int .i64 x.val] 70))
          have HS3 := hid (Nat.le_trans HSr.out hb3.size)
          have HB3' := hid (HBr.out.trans (hb3.mono HBr.out.size))
          have HB3 := hid (HB3'.out.alloc HB3'.out.size (.cells #[.int .i64 x.op, .int .i64 x.loc, .int .i64 x.reg, .int .i64 x.val] 70))
          have hs3 := HB3'.out.size
          clear hb3 htc2 hwc
          go_wp2_with (at_builtin; refine wpList_append_ins rfl (.tmp 46) (.tmp 52) rfl w.heap.size (.slice a0 j c0) j (parTo t j) rfl HL3.out ⟨w3.heap.size, 0, none⟩ x rfl (ins_laid w3 x _) (by omega) (by simp; omega) ?_)
          intro v4 w4 hown4 hgrow4 hat4
          obtain ⟨a4, c4, rfl, hb4⟩ := own_shape hown4
          rw [ownBlock_slice] at hgrow4 hat4
          rw [ownBlock_slice] at hat4
          rw [← HSJ1.out] at hown4
          have HL4 := hid hown4
          have HT4 := hid (own_other HT3.out HL3.out (by decide) hgrow4)
          have HW4 := hid (own_other HW3.out HL3.out (by decide) hgrow4)
          have HP4 := hid (HP3.out.grown hgrow4 (fun q hq => HLT.out q hq))
          have HB4 := hid (HB3.out.grown hgrow4 (by simp; omega) (fun q hq => (own_blk HL3.out q hq).1))
          have HS4 := hid (show wo.heap.size ≤ w4.heap.size by have h1 := hgrow4.size; have h2 := HS3.out; simp at h1; omega)
          have HLT4 := hid (show ∀ q, blk a4 = some q → wo.heap.size ≤ q from fun q hq => by
            rcases hat4 with h | h
            · exact HLT.out q (by rw [← h]; exact hq)
            · rw [hq] at h; have h2 := HS3.out; simp at h; omega)
          have HJ4 := hid (show JOk (j + 1) t from .inr HTE.out)
          clear hown4 hgrow4 hat4 hb4
          go_wp2_with fail
          go_roundw
          case rel => exact ⟨j + 1, by omega, by omega, by go_num, HJ4, ⟨_, _, rfl, HL4, HLT4⟩, HW4, HT4, HP4, HS4, HB4⟩
          case measure => simp [intOf]; omega
        · have HRW := hid (show parRow t = parTo t j by
            unfold parRow
            by_cases hte : t = []
            · rw [if_pos hte]
              rcases HJ0.out with h | h
              · rw [h, HL00.out]
              · exact absurd hte h
            · rw [if_neg hte]
              exact (HENJ.out j hj8 (by
                by_cases h : j < m
                · right
                  by_cases h7 : j ≤ 7
                  · exact absurd ⟨⟨h, h7⟩, hte⟩ hcj
                  · omega
                · left; omega)).symm)
          have hway : ¬ j < m ∨ (j < m ∧ ¬ j ≤ 7) ∨ (j < m ∧ j ≤ 7 ∧ t = []) := by
            by_cases h : j < m
            · right
              by_cases h7 : j ≤ 7
              · right
                refine ⟨h, h7, ?_⟩
                by_cases hte : t = []
                · exact hte
                · exact absurd ⟨⟨h, h7⟩, hte⟩ hcj
              · exact .inl ⟨h, h7⟩
            · exact .inl h
          clear hcj
          rcases hway with g1 | ⟨g1, g2⟩ | ⟨g1, g2, g3⟩
          · have d1 : decide ((j : Int) < (m : Int)) = false := by simp; omega
            have d1' : decide (j < m) = false := by simp; omega
            clear g1
            go_wp2_with (at_builtin; refine wpList_pushn rfl (.tmp 54) (.tmp 56) rfl w.heap.size wo.heap.size b k cap (parsTo s k) HPL.out rfl (HPr.out.below ((Below.refl _ _).alloc (Nat.le_refl _) _)) a0 c0 j (parTo t j) HPTL.out (HL.out.alloc _) HLT.out ⟨w2.heap.size, 0, none⟩ rfl (by simp) (by omega) (by simp; omega) ?_)
            intro a5 c5 w5 hP5 hg5
            have HP5 := hid (show OwP w5 w.heap.size w5.heap.size a5 c5 (parsTo s (k + 1)) by rw [HSK.out, HRW.out]; exact hP5)
            have HB5 := hid ((HBr.out.alloc HBr.out.size (.cells #[.slice a0 j c0] 30)).grown hg5 (by simp; omega) (fun q hq => by
              obtain ⟨rs, _, ho, _⟩ := HPr.out
              exact (own_blk ho q hq).1))
            have HT5 := hid (show w5.ownsRow w.heap.size 9 1 (.slice (some ⟨tg, 0, none⟩) n tcap) n (sL TS) by
              obtain ⟨rs, _, ho, _⟩ := HPr.out
              exact own_other (HTr.out.alloc _) (ho.alloc (.cells #[.slice a0 j c0] 30)) (by decide) hg5)
            clear hP5 hg5
            go_wp2_with fail
            go_roundw
            case rel => exact ⟨k + 1, by omega, by omega, by go_num, ⟨_, _, rfl, HP5⟩, HT5, HB5⟩
            case measure => simp [intOf]; omega
          · have i1 : (j : Int) < (m : Int) := by omega
            have d2 : decide ((j : Int) ≤ 7) = false := by simp; omega
            have d2' : decide (j ≤ 7) = false := by simp; omega
            clear g2
            go_wp2_with (at_builtin; refine wpList_pushn rfl (.tmp 54) (.tmp 56) rfl w.heap.size wo.heap.size b k cap (parsTo s k) HPL.out rfl (HPr.out.below ((Below.refl _ _).alloc (Nat.le_refl _) _)) a0 c0 j (parTo t j) HPTL.out (HL.out.alloc _) HLT.out ⟨w2.heap.size, 0, none⟩ rfl (by simp) (by omega) (by simp; omega) ?_)
            intro a5 c5 w5 hP5 hg5
            have HP5 := hid (show OwP w5 w.heap.size w5.heap.size a5 c5 (parsTo s (k + 1)) by rw [HSK.out, HRW.out]; exact hP5)
            have HB5 := hid ((HBr.out.alloc HBr.out.size (.cells #[.slice a0 j c0] 30)).grown hg5 (by simp; omega) (fun q hq => by
              obtain ⟨rs, _, ho, _⟩ := HPr.out
              exact (own_blk ho q hq).1))
            have HT5 := hid (show w5.ownsRow w.heap.size 9 1 (.slice (some ⟨tg, 0, none⟩) n tcap) n (sL TS) by
              obtain ⟨rs, _, ho, _⟩ := HPr.out
              exact own_other (HTr.out.alloc _) (ho.alloc (.cells #[.slice a0 j c0] 30)) (by decide) hg5)
            clear hP5 hg5
            go_wp2_with fail
            go_roundw
            case rel => exact ⟨k + 1, by omega, by omega, by go_num, ⟨_, _, rfl, HP5⟩, HT5, HB5⟩
            case measure => simp [intOf]; omega
          · have i1 : (j : Int) < (m : Int) := by omega
            have i2 : (j : Int) ≤ 7 := by omega
            have e0 : ((ba t).toList.isEmpty) = true := by rw [ByteArray.toList_eq, g3]; rfl
            have e0' : (ba t).toList = [] := by rw [ByteArray.toList_eq, g3]; rfl
            clear g3
            go_wp2_with (at_builtin; refine wpList_pushn rfl (.tmp 54) (.tmp 56) rfl w.heap.size wo.heap.size b k cap (parsTo s k) HPL.out rfl (HPr.out.below ((Below.refl _ _).alloc (Nat.le_refl _) _)) a0 c0 j (parTo t j) HPTL.out (HL.out.alloc _) HLT.out ⟨w2.heap.size, 0, none⟩ rfl (by simp) (by omega) (by simp; omega) ?_)
            intro a5 c5 w5 hP5 hg5
            have HP5 := hid (show OwP w5 w.heap.size w5.heap.size a5 c5 (parsTo s (k + 1)) by rw [HSK.out, HRW.out]; exact hP5)
            have HB5 := hid ((HBr.out.alloc HBr.out.size (.cells #[.slice a0 j c0] 30)).grown hg5 (by simp; omega) (fun q hq => by
              obtain ⟨rs, _, ho, _⟩ := HPr.out
              exact (own_blk ho q hq).1))
            have HT5 := hid (show w5.ownsRow w.heap.size 9 1 (.slice (some ⟨tg, 0, none⟩) n tcap) n (sL TS) by
              obtain ⟨rs, _, ho, _⟩ := HPr.out
              exact own_other (HTr.out.alloc _) (ho.alloc (.cells #[.slice a0 j c0] 30)) (by decide) hg5)
            clear hP5 hg5
            go_wp2_with fail
            go_roundw
            case rel => exact ⟨k + 1, by omega, by omega, by go_num, ⟨_, _, rfl, HP5⟩, HT5, HB5⟩
            case measure => simp [intOf]; omega
    · have HEQ := hid (HEND.out k hk4 (by omega))
      have hway : ¬ k < n ∨ (k < n ∧ ¬ k ≤ 3) := by omega
      clear hc
      rcases hway with g1 | ⟨g1, g2⟩
      · have d1 : decide ((k : Int) < (n : Int)) = false := by simp; omega
        have d1' : decide (k < n) = false := by simp; omega
        clear g1
        have HPV := hid (pvS_c wo b cap (parsTo s k) HP.out.rd (by rw [HEQ.out]; exact HPS.out))
        rw [HPL.out, HEQ.out] at HPV
        obtain ⟨V, hV⟩ : ∃ V, V = progValid (parsP s) := ⟨_, rfl⟩
        rw [← hV] at HPV
        cases V
        · have HR := hid (show parRes s = ([], false) by unfold parRes; rw [if_neg (fun h => by rw [← hV] at h; cases h.1)])
          clear hV
          go_wp2_with fail
          refine HPV.out.mono ?_
          rintro e w1 ⟨rfl, hb1⟩
          have HB1 := hid (HB.out.trans (hb1.mono HB.out.size))
          clear hb1
          go_wp2
          go_ret2
          rw [HR.out]
          exact ⟨_, _, rfl, OwP.down (by simpa using OwP.nil w1 w1.heap.size 30 (Nat.le_refl _) rfl) HB1.out.size, HB1.out.alloc HB1.out.size _⟩
        · have HPR := hid (fun w1 h => l1Program_c w1 b cap (parsTo s k) h (by rw [HEQ.out]; exact (valid_of hV.symm).toShape))
          rw [HPL.out, HEQ.out] at HPR
          have HV := hid hV
          obtain ⟨X, hX⟩ : ∃ X, X = ba (prgL (parsP s)) := ⟨_, rfl⟩
          rw [← hX] at HPR
          by_cases hE : X = s
          · have HR := hid (show parRes s = (parsP s, true) by unfold parRes; rw [if_pos ⟨hV.symm, by rw [← hX]; exact hE⟩])
            have e1 : (X.toList == s.toList) = true := by rw [hE]; simp
            clear hV hE hX
            go_wp2_with fail
            refine HPV.out.mono ?_
            rintro e w1 ⟨rfl, hb1⟩
            have HB1 := hid (HB.out.trans (hb1.mono HB.out.size))
            have HP1 := hid (HP.out.below hb1)
            have HS1 := hid hb1.size
            clear hb1
            go_wp2_with fail
            refine (HPR.out _ (by have := HP1.out.rd; rw [HEQ.out] at this; exact this)).mono ?_
            rintro e w3 ⟨rfl, hb3⟩
            have HB3 := hid (HB1.out.trans (hb3.mono HB1.out.size))
            have HP3 := hid (HP1.out.below hb3)
            have HS3 := hid (Nat.le_trans HS1.out hb3.size)
            clear hb3
            go_wp2
            go_ret2
            rw [HR.out]
            exact ⟨_, _, by rw [← HEQ.out, HPL.out]; rfl, by rw [← HEQ.out]; exact HP3.out.up HS3.out, HB3.out⟩
          · have HR := hid (show parRes s = ([], false) by unfold parRes; rw [if_neg (fun h => hE (by rw [hX]; exact h.2))])
            have e1 : (X.toList == s.toList) = false := by
              rw [beq_eq_false_iff_ne]
              intro e
              rw [ByteArray.toList_eq, ByteArray.toList_eq] at e
              exact hE (ByteArray.ext (Array.toList_inj.1 e))
            clear hV hE hX
            go_wp2_with fail
            refine HPV.out.mono ?_
            rintro e w1 ⟨rfl, hb1⟩
            have HB1 := hid (HB.out.trans (hb1.mono HB.out.size))
            have HP1 := hid (HP.out.below hb1)
            have HS1 := hid hb1.size
            clear hb1
            go_wp2_with fail
            refine (HPR.out _ (by have := HP1.out.rd; rw [HEQ.out] at this; exact this)).mono ?_
            rintro e w3 ⟨rfl, hb3⟩
            have HB3 := hid (HB1.out.trans (hb3.mono HB1.out.size))
            clear hb3
            go_wp2
            go_ret2
            rw [HR.out]
            exact ⟨_, _, rfl, OwP.down (by simpa using OwP.nil w3 w3.heap.size 30 (Nat.le_refl _) rfl) HB3.out.size, HB3.out.alloc HB3.out.size _⟩
      · have i1 : (k : Int) < (n : Int) := by omega
        have d2 : decide ((k : Int) ≤ 3) = false := by simp; omega
        have d2' : decide (k ≤ 3) = false := by simp; omega
        clear g2
        have HPV := hid (pvS_c wo b cap (parsTo s k) HP.out.rd (by rw [HEQ.out]; exact HPS.out))
        rw [HPL.out, HEQ.out] at HPV
        obtain ⟨V, hV⟩ : ∃ V, V = progValid (parsP s) := ⟨_, rfl⟩
        rw [← hV] at HPV
        cases V
        · have HR := hid (show parRes s = ([], false) by unfold parRes; rw [if_neg (fun h => by rw [← hV] at h; cases h.1)])
          clear hV
          go_wp2_with fail
          refine HPV.out.mono ?_
          rintro e w1 ⟨rfl, hb1⟩
          have HB1 := hid (HB.out.trans (hb1.mono HB.out.size))
          clear hb1
          go_wp2
          go_ret2
          rw [HR.out]
          exact ⟨_, _, rfl, OwP.down (by simpa using OwP.nil w1 w1.heap.size 30 (Nat.le_refl _) rfl) HB1.out.size, HB1.out.alloc HB1.out.size _⟩
        · have HPR := hid (fun w1 h => l1Program_c w1 b cap (parsTo s k) h (by rw [HEQ.out]; exact (valid_of hV.symm).toShape))
          rw [HPL.out, HEQ.out] at HPR
          have HV := hid hV
          obtain ⟨X, hX⟩ : ∃ X, X = ba (prgL (parsP s)) := ⟨_, rfl⟩
          rw [← hX] at HPR
          by_cases hE : X = s
          · have HR := hid (show parRes s = (parsP s, true) by unfold parRes; rw [if_pos ⟨hV.symm, by rw [← hX]; exact hE⟩])
            have e1 : (X.toList == s.toList) = true := by rw [hE]; simp
            clear hV hE hX
            go_wp2_with fail
            refine HPV.out.mono ?_
            rintro e w1 ⟨rfl, hb1⟩
            have HB1 := hid (HB.out.trans (hb1.mono HB.out.size))
            have HP1 := hid (HP.out.below hb1)
            have HS1 := hid hb1.size
            clear hb1
            go_wp2_with fail
            refine (HPR.out _ (by have := HP1.out.rd; rw [HEQ.out] at this; exact this)).mono ?_
            rintro e w3 ⟨rfl, hb3⟩
            have HB3 := hid (HB1.out.trans (hb3.mono HB1.out.size))
            have HP3 := hid (HP1.out.below hb3)
            have HS3 := hid (Nat.le_trans HS1.out hb3.size)
            clear hb3
            go_wp2
            go_ret2
            rw [HR.out]
            exact ⟨_, _, by rw [← HEQ.out, HPL.out]; rfl, by rw [← HEQ.out]; exact HP3.out.up HS3.out, HB3.out⟩
          · have HR := hid (show parRes s = ([], false) by unfold parRes; rw [if_neg (fun h => hE (by rw [hX]; exact h.2))])
            have e1 : (X.toList == s.toList) = false := by
              rw [beq_eq_false_iff_ne]
              intro e
              rw [ByteArray.toList_eq, ByteArray.toList_eq] at e
              exact hE (ByteArray.ext (Array.toList_inj.1 e))
            clear hV hE hX
            go_wp2_with fail
            refine HPV.out.mono ?_
            rintro e w1 ⟨rfl, hb1⟩
            have HB1 := hid (HB.out.trans (hb1.mono HB.out.size))
            have HP1 := hid (HP.out.below hb1)
            have HS1 := hid hb1.size
            clear hb1
            go_wp2_with fail
            refine (HPR.out _ (by have := HP1.out.rd; rw [HEQ.out] at this; exact this)).mono ?_
            rintro e w3 ⟨rfl, hb3⟩
            have HB3 := hid (HB1.out.trans (hb3.mono HB1.out.size))
            clear hb3
            go_wp2
            go_ret2
            rw [HR.out]
            exact ⟨_, _, rfl, OwP.down (by simpa using OwP.nil w3 w3.heap.size 30 (Nat.le_refl _) rfl) HB3.out.size, HB3.out.alloc HB3.out.size _⟩
end Go.Proofs.Ythlmfjoiicnomaa
