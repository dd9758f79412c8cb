/-
  PROVED HERE: the plain law of texts of outcomes, and what ParseOutcome of both packages does. CONDITIONS: as each theorem states.
-/
import Derived.Test.YthlmfjoiicnomaaFoi
import Derived.Test.YthlmfjoiicnomaaBf
namespace Go.Proofs.Ythlmfjoiicnomaa
open Go.RowKit
set_option linter.unusedVariables false
set_option linter.unusedSimpArgs false

def dig (b : UInt8) : Int := (b.toNat : Int) - 48
def notSep (b : UInt8) : Bool := decide (b.toNat ≠ 47)
def isDig (b : UInt8) : Bool := decide (48 ≤ b.toNat) && decide (b.toNat ≤ 57)
def pI (l : List UInt8) : List Int := (l.filter notSep).map dig
def pD (l : List UInt8) : List Int := (l.filter isDig).map dig
abbrev bytes (s : ByteArray) : List UInt8 := s.data.toList
def parseOut (p : Prg) (s : ByteArray) : List Int × Bool := if outValid p (pI (bytes s)) = true ∧ outTxt (pI (bytes s)) = s then (pI (bytes s), true) else ([], false)

theorem bytes_append (a b : ByteArray) : bytes (a ++ b) = bytes a ++ bytes b := by
  unfold bytes
  rw [ByteArray.data_append]
  simp
theorem bytes_chr (c v : Nat) : bytes (chr c v) = [UInt8.ofNat (c + v)] := rfl
theorem pI_append (l l' : List UInt8) : pI (l ++ l') = pI l ++ pI l' := by simp [pI]
theorem pD_append (l l' : List UInt8) : pD (l ++ l') = pD l ++ pD l' := by simp [pD]
theorem nat_digit (v : Nat) (h : v ≤ 3) : (UInt8.ofNat (48 + v)).toNat = 48 + v := by rw [UInt8.toNat_ofNat']; omega
theorem pI_digit (v : Nat) (h : v ≤ 3) : pI [UInt8.ofNat (48 + v)] = [(v : Int)] := by
  have e := nat_digit v h
  have e1 : notSep (UInt8.ofNat (48 + v)) = true := by unfold notSep; rw [decide_eq_true_eq, e]; omega
  have e2 : dig (UInt8.ofNat (48 + v)) = v := by unfold dig; rw [e]; omega
  unfold pI
  rw [List.filter_cons, if_pos e1, List.filter_nil]
  show [dig _] = _
  rw [e2]
theorem pD_digit (v : Nat) (h : v ≤ 3) : pD [UInt8.ofNat (48 + v)] = [(v : Int)] := by
  have e := nat_digit v h
  have e1 : isDig (UInt8.ofNat (48 + v)) = true := by unfold isDig; rw [Bool.and_eq_true, decide_eq_true_eq, decide_eq_true_eq, e]; omega
  have e2 : dig (UInt8.ofNat (48 + v)) = v := by unfold dig; rw [e]; omega
  unfold pD
  rw [List.filter_cons, if_pos e1, List.filter_nil]
  show [dig _] = _
  rw [e2]
theorem parse_txt {o : List Int} (ho : o.all outB = true) : ∀ k, k ≤ o.length → pI (bytes (txtTo o k)) = o.take k ∧ pD (bytes (txtTo o k)) = o.take k
  | 0, _ => ⟨by simp [txtTo, pI], by simp [txtTo, pD]⟩
  | k + 1, hk => by
    obtain ⟨ih1, ih2⟩ := parse_txt ho k (by omega)
    obtain ⟨v, hv, hx, hg⟩ := out_at ho (k := k) (by omega)
    have ht : o.take (k + 1) = o.take k ++ [(v : Int)] := by rw [List.take_add_one, hx]; rfl
    by_cases hs : 0 < k ∧ k % 3 = 0
    · rw [txtTo_sep hs, hg, bytes_append, bytes_append, bytes_chr, pI_append, pI_append, pD_append, pD_append, ih1, ih2, pI_digit v hv, pD_digit v hv, ht]
      have e1 : pI (bytes ⟨#[47]⟩) = [] := by decide
      have e2 : pD (bytes ⟨#[47]⟩) = [] := by decide
      rw [e1, e2, List.append_nil]
      exact ⟨rfl, rfl⟩
    · rw [txtTo_no hs, hg, bytes_append, bytes_chr, pI_append, pD_append, ih1, ih2, pI_digit v hv, pD_digit v hv, ht]
      exact ⟨rfl, rfl⟩
theorem parse_all {o : List Int} (ho : o.all outB = true) (hl : o.length ≤ 12) : pI (bytes (outTxt o)) = o ∧ pD ((bytes (outTxt o)).take 100) = o := by
  obtain ⟨h1, h2⟩ := parse_txt ho o.length (Nat.le_refl _)
  rw [List.take_length] at h1 h2
  refine ⟨h1, ?_⟩
  rw [List.take_of_length_le]
  · exact h2
  · have := txtTo_size o o.length
    show (txtTo o o.length).data.toList.length ≤ 100
    rw [Array.length_toList]
    have e : (txtTo o o.length).data.size = (txtTo o o.length).size := rfl
    omega
theorem valid_len {p : Prg} {o : List Int} (h : outValid p o = true) : o.all outB = true ∧ o.length ≤ 12 := by
  obtain ⟨h1, h2, h3⟩ := out_parts h
  exact ⟨h3, by have := (valid_of h1).len; omega⟩
/-- The reference reads the same. -/
theorem parse_spec_yes {p : Prg} {s : ByteArray} {o : List Int} (he : o = pD ((bytes s).take 100)) (h : outValid p o = true) (ht : outTxt o = s) : parseOut p s = (o, true) := by
  obtain ⟨h1, h2⟩ := valid_len h
  have h3 := (parse_all h1 h2).1
  rw [ht] at h3
  unfold parseOut
  rw [h3, if_pos ⟨h, ht⟩]
theorem parse_spec_no {p : Prg} {s : ByteArray} {o : List Int} (he : o = pD ((bytes s).take 100)) (h : outValid p o = false ∨ outTxt o ≠ s) : parseOut p s = ([], false) := by
  unfold parseOut
  rw [if_neg]
  rintro ⟨h1, h2⟩
  obtain ⟨h3, h4⟩ := valid_len h1
  have h5 := (parse_all h3 h4).2
  rw [h2, ← he] at h5
  rw [← h5] at h1 h2
  rcases h with h | h
  · rw [h] at h1; cases h1
  · exact h h2
theorem parse_impl_yes {p : Prg} {s : ByteArray} {o : List Int} (he : o = pI (bytes s)) (h : outValid p o = true) (ht : outTxt o = s) : parseOut p s = (o, true) := by
  unfold parseOut
  rw [← he, if_pos ⟨h, ht⟩]
theorem parse_impl_no {p : Prg} {s : ByteArray} {o : List Int} (he : o = pI (bytes s)) (h : outValid p o = false ∨ outTxt o ≠ s) : parseOut p s = ([], false) := by
  unfold parseOut
  rw [← he, if_neg]
  rintro ⟨h1, h2⟩
  rcases h with h | h
  · rw [h] at h1; cases h1
  · exact h h2
theorem parse_len (p : Prg) (s : ByteArray) : (parseOut p s).1.length ≤ 1048576 := by
  unfold parseOut
  split
  · rename_i h
    have := (valid_len h.1).2
    show (pI (bytes s)).length ≤ _
    omega
  · exact Nat.zero_le _
theorem bytes_take (s : ByteArray) (k : Nat) (h : k < s.size) : (bytes s).take (k + 1) = (bytes s).take k ++ [s[k]] := by
  rw [List.take_succ_eq_append_getElem (by simpa using h)]; rfl
theorem pD_step (s : ByteArray) (k : Nat) (h : k < s.size) : pD ((bytes s).take (k + 1)) = pD ((bytes s).take k) ++ if 48 ≤ s[k].toNat ∧ s[k].toNat ≤ 57 then [(s[k].toNat : Int) - 48] else [] := by
  rw [bytes_take s k h, pD_append]
  congr 1
  unfold pD
  by_cases hc : 48 ≤ s[k].toNat ∧ s[k].toNat ≤ 57
  · have : isDig s[k] = true := by unfold isDig; simpa using hc
    rw [if_pos hc, List.filter_cons, if_pos this]; rfl
  · have : ¬ isDig s[k] = true := by unfold isDig; simpa using hc
    rw [if_neg hc, List.filter_cons, if_neg this]; rfl
theorem pI_step (s : ByteArray) (k : Nat) (h : k < s.size) : pI ((bytes s).take (k + 1)) = pI ((bytes s).take k) ++ if s[k].toNat ≠ 47 then [(s[k].toNat : Int) - 48] else [] := by
  rw [bytes_take s k h, pI_append]
  congr 1
  unfold pI
  by_cases hc : s[k].toNat ≠ 47
  · have : notSep s[k] = true := by unfold notSep; simpa using hc
    rw [if_pos hc, List.filter_cons, if_pos this]; rfl
  · have : ¬ notSep s[k] = true := by unfold notSep; simpa using hc
    rw [if_neg hc, List.filter_cons, if_neg this]; rfl
theorem pD_len (l : List UInt8) : (pD l).length ≤ l.length := by unfold pD; rw [List.length_map]; exact List.length_filter_le _ _
theorem pI_len (l : List UInt8) : (pI l).length ≤ l.length := by unfold pI; rw [List.length_map]; exact List.length_filter_le _ _
theorem bytes_all (s : ByteArray) : (bytes s).take s.size = bytes s := List.take_of_length_le (by show s.data.toList.length ≤ s.data.size; simp)
theorem ne_lists {a b : ByteArray} (h : a ≠ b) : (a.toList == b.toList) = false := by
  have h1 : a.toList ≠ b.toList := fun e => h (by
    rw [ByteArray.toList_eq, ByteArray.toList_eq] at e
    apply ByteArray.ext
    exact Array.toList_inj.1 e)
  simpa using h1

set_option maxHeartbeats 1600000 in
theorem poS_c (w : World) (a : Option Addr) (cap : Nat) (p : Prg) (s : ByteArray) (h : RdP w a p) (hl : sizeP p ≤ 1048576) (hs : s.size ≤ 1048576) :
    Calls Try.prog 29 #[.slice a p.length cap, .string s] w (RetLB w (parseOut p s)) := by
  have HST := hid (fun k hk => pD_step s k hk)
  have HLN := hid (fun k => Nat.le_trans (pD_len ((bytes s).take k)) (List.length_take_le k _))
  have HALL := hid (fun k (hk : k = 100 ∨ (k = s.size ∧ k ≤ 100)) => (show pD ((bytes s).take k) = pD ((bytes s).take 100) by
    rcases hk with e | ⟨e, e2⟩
    · rw [e]
    · rw [e, bytes_all, List.take_of_length_le]
      show s.data.toList.length ≤ 100
      rw [Array.length_toList]
      have : s.data.size = s.size := rfl
      omega))
  have HV := hid (fun w' (hb : Below w.heap.size w w') a' cap' o h' hl' => ovS_c w' a cap p a' cap' o (h.below hb) h' hl hl')
  have HT := hid (fun (w' : World) (a' : Option Addr) (cap' : Nat) o h' ho hl' => l3Text_c w' a' cap' o h' ho hl')
  have HO0 := hid (own_lit0 w w.heap.size 3 1 (Nat.le_refl _))
  have HB0 := hid ((Below.refl w.heap.size w).alloc (Nat.le_refl _) (.cells #[] 3))
  clear h hl
  go_enter Try.func29, Try.ntmps29
  go_wp2
  go_loopw [6, 7] (fun v i wr => ∃ k : Nat, k ≤ s.size ∧ k ≤ 100 ∧ i = .int .i64 k ∧ Hid (wr.ownsRow w.heap.size 3 1 v (pD ((bytes s).take k)).length (ints (pD ((bytes s).take k)))) ∧ Hid (Below w.heap.size w wr)) (fun _ i _ => 100 - (intOf i).toNat)
  case atStart => exact ⟨0, Nat.zero_le _, by omega, rfl, hid (by simpa [pD] using HO0.out), HB0⟩
  case round =>
    obtain ⟨k, hk, hk100, rfl, HO, HB⟩ := hrel
    by_cases hgo : k < s.size ∧ k < 100
    · obtain ⟨hlt, hl100⟩ := hgo
      have HSK := hid (HST.out k hlt)
      have hln := HLN.out k
      have hbs := HB.out.size
      obtain ⟨L, eL⟩ : ∃ L, L = pD ((bytes s).take k) := ⟨_, rfl⟩
      rw [← eL] at HSK hln HO
      clear eL
      by_cases h48 : 48 ≤ s[k].toNat
      · by_cases h57 : s[k].toNat ≤ 57
        · have HE := hid (show pD ((bytes s).take (k + 1)) = L ++ [(s[k].toNat : Int) - 48] by rw [HSK.out, if_pos ⟨h48, h57⟩])
          have i48 : (48 : Int) ≤ (s[k].toNat : Int) := by omega
          have i57 : (s[k].toNat : Int) ≤ 57 := by omega
          clear h48 h57
          go_wp2_with (at_builtin; refine wpList_append_one rfl (.tmp 29) (.tmp 35) 24 rfl w.heap.size 3 (.int .i64 0) 8 Try.underlying24 Try.info_int rfl _ _ _ rfl (HO.out.alloc _) _ (.int .i64 ((s[k].toNat : Int) - 48)) rfl (by simp) rfl (by omega) (by omega) (by simp; omega) ?_)
          intro v1 w4 hown1 hgrow1
          have HO4 := hid (show w4.ownsRow w.heap.size 3 1 v1 (pD ((bytes s).take (k + 1))).length (ints (pD ((bytes s).take (k + 1)))) by
            rw [HE.out, List.length_append]
            simpa [ints] using hown1)
          have HB4 := hid ((HB.out.alloc HB.out.size _).grown hgrow1 (by simp; omega) (fun b hb => (HO.out.lt b hb).1))
          clear hown1 hgrow1
          go_wp2_with fail
          go_roundw
          case rel => exact ⟨k + 1, by omega, by omega, by go_num, HO4, HB4⟩
          case measure => simp [intOf]; omega
        · have HE := hid (show pD ((bytes s).take (k + 1)) = L by rw [HSK.out, if_neg (by omega), List.append_nil])
          have i48 : (48 : Int) ≤ (s[k].toNat : Int) := by omega
          have i57 : (57 : Int) < (s[k].toNat : Int) := by omega
          clear h48 h57
          go_wp2_with fail
          go_roundw
          case rel => exact ⟨k + 1, by omega, by omega, by go_num, by rw [HE.out]; exact HO, HB⟩
          case measure => simp [intOf]; omega
      · have HE := hid (show pD ((bytes s).take (k + 1)) = L by rw [HSK.out, if_neg (by omega), List.append_nil])
        have i48 : (s[k].toNat : Int) < 48 := by omega
        clear h48
        go_wp2_with fail
        go_roundw
        case rel => exact ⟨k + 1, by omega, by omega, by go_num, by rw [HE.out]; exact HO, HB⟩
        case measure => simp [intOf]; omega
    · have HEND := hid (HALL.out k (by omega))
      have hln := HLN.out k
      rw [HEND.out] at HO hln
      obtain ⟨o, ho⟩ : ∃ o, o = pD ((bytes s).take 100) := ⟨_, rfl⟩
      have HOE := hid ho
      rw [← ho] at HO hln
      obtain ⟨a1, cap1, rfl, _⟩ := own_shape HO.out
      have HV' := hid (HV.out wr HB.out a1 cap1 o (Rd.own HO.out) (by omega))
      have HYES := hid (fun h ht => parse_spec_yes (p := p) HOE.out h ht)
      have HNO := hid (fun h => parse_spec_no (p := p) HOE.out h)
      have HDEC := hid hgo
      clear ho
      by_cases hks : k < s.size
      all_goals
        try have hk1 : decide ((k : Int) < 100) = false := by rw [decide_eq_false_iff_not]; have := HDEC.out; omega
        clear hgo
        by_cases hv : outValid p o = true
        · have hvl := valid_len hv
          have HT' := hid (fun w' h' => HT.out w' a1 cap1 o h' hvl.1 (by omega))
          rw [hv] at HV'
          by_cases ht : outTxt o = s
          · have HR := hid (HYES.out hv ht)
            rw [ht] at HT'
            clear hv ht hvl
            go_wp2_with fail
            refine HV'.out.mono ?_
            rintro e w2 ⟨rfl, hb2⟩
            have HB2 := hid (HB.out.trans (hb2.mono HB.out.size))
            have HO2 := hid (own_below HO.out hb2)
            clear hb2
            go_wp2_with fail
            refine (HT'.out _ (Rd.own HO2.out)).mono ?_
            rintro e w3 ⟨rfl, hb3⟩
            have HB3 := hid (HB2.out.trans (hb3.mono HB2.out.size))
            have HO3 := hid (own_below HO2.out hb3)
            clear hb3
            go_wp2
            go_ret2
            rw [HR.out]
            exact ⟨_, _, rfl, HO3.out, HB3.out⟩
          · have HR := hid (HNO.out (.inr ht))
            obtain ⟨T, hT⟩ : ∃ T, T = outTxt o := ⟨_, rfl⟩
            rw [← hT] at HT' ht
            have hn1 := ne_lists ht
            clear hv ht hvl hT
            go_wp2_with fail
            refine HV'.out.mono ?_
            rintro e w2 ⟨rfl, hb2⟩
            have HB2 := hid (HB.out.trans (hb2.mono HB.out.size))
            have HO2 := hid (own_below HO.out hb2)
            clear hb2
            go_wp2_with fail
            refine (HT'.out _ (Rd.own HO2.out)).mono ?_
            rintro e w3 ⟨rfl, hb3⟩
            have HB3 := hid (HB2.out.trans (hb3.mono HB2.out.size))
            clear hb3
            go_wp2
            go_ret2
            rw [HR.out]
            exact ⟨_, _, rfl, own_lit0 _ _ _ 1 HB3.out.size, HB3.out.alloc HB3.out.size _⟩
        · have hv : outValid p o = false := by simpa using hv
          have HR := hid (HNO.out (.inl hv))
          rw [hv] at HV'
          clear hv
          go_wp2_with fail
          refine HV'.out.mono ?_
          rintro e w2 ⟨rfl, hb2⟩
          have HB2 := hid (HB.out.trans (hb2.mono HB.out.size))
          clear hb2
          go_wp2
          go_ret2
          rw [HR.out]
          exact ⟨_, _, rfl, own_lit0 _ _ _ 1 HB2.out.size, HB2.out.alloc HB2.out.size _⟩

set_option maxHeartbeats 1600000 in
theorem poI_c (w : World) (a : Option Addr) (cap : Nat) (p : Prg) (s : ByteArray) (h : RdP w a p) (hl : sizeP p ≤ 1048576) (hs : s.size ≤ 1048576) :
    Calls Try.prog 26 #[.slice a p.length cap, .string s] w (RetLB w (parseOut p s)) := by
  have HST := hid (fun k hk => pI_step s k hk)
  have HLN := hid (fun k => Nat.le_trans (pI_len ((bytes s).take k)) (List.length_take_le k _))
  have HALL := hid (bytes_all s)
  have HV := hid (fun w' (hb : Below w.heap.size w w') a' cap' o h' hl' => ovI_c w' a cap p a' cap' o (h.below hb) h' hl hl')
  have HT := hid (fun w' (hb : Below w.heap.size w w') a' cap' o h' hl' => foI_c w' a cap p a' cap' o (h.below hb) h' hl hl')
  clear h hl
  go_enter Try.func26, Try.ntmps26
  go_wp2
  go_loopw [6, 10] (fun v i wr => ∃ k : Nat, k ≤ s.size ∧ i = .int .i64 k ∧ Hid (wr.ownsRow w.heap.size 3 1 v (pI ((bytes s).take k)).length (ints (pI ((bytes s).take k)))) ∧ Hid (Below w.heap.size w wr)) (fun _ i _ => s.size - (intOf i).toNat)
  case atStart => exact ⟨0, Nat.zero_le _, rfl, hid (by simpa [pI] using own_none w w.heap.size 3 1), hid (Below.refl _ _)⟩
  case round =>
    obtain ⟨k, hk, rfl, HO, HB⟩ := hrel
    by_cases hlt : k < s.size
    · have HSK := hid (HST.out k hlt)
      have hln := HLN.out k
      have hbs := HB.out.size
      obtain ⟨L, eL⟩ : ∃ L, L = pI ((bytes s).take k) := ⟨_, rfl⟩
      rw [← eL] at HSK hln HO
      clear eL
      by_cases h47 : s[k].toNat ≠ 47
      · have HE := hid (show pI ((bytes s).take (k + 1)) = L ++ [(s[k].toNat : Int) - 48] by rw [HSK.out, if_pos h47])
        have i47 : ((s[k].toNat : Int) != 47) = true := by rw [bne_iff_ne]; omega
        have hb255 : (s[k].toNat : Int) ≤ 255 := by have := s[k].toNat_lt; omega
        clear h47
        go_wp2_with (at_builtin; refine wpList_append_one rfl (.tmp 17) (.tmp 23) 24 rfl w.heap.size 3 (.int .i64 0) 8 Try.underlying24 Try.info_int rfl _ _ _ rfl (HO.out.alloc _) _ (.int .i64 ((s[k].toNat : Int) - 48)) rfl (by simp) rfl (by omega) (by omega) (by simp; omega) ?_)
        intro v1 w4 hown1 hgrow1
        have HO4 := hid (show w4.ownsRow w.heap.size 3 1 v1 (pI ((bytes s).take (k + 1))).length (ints (pI ((bytes s).take (k + 1)))) by
          rw [HE.out, List.length_append]
          simpa [ints] using hown1)
        have HB4 := hid ((HB.out.alloc HB.out.size _).grown hgrow1 (by simp; omega) (fun b hb => (HO.out.lt b hb).1))
        clear hown1 hgrow1
        go_wp2_with fail
        go_roundw
        case rel => exact ⟨k + 1, by omega, by go_num, HO4, HB4⟩
        case measure => simp [intOf]; omega
      · have HE := hid (show pI ((bytes s).take (k + 1)) = L by rw [HSK.out, if_neg h47, List.append_nil])
        have i47 : ((s[k].toNat : Int) != 47) = false := by rw [bne_eq_false_iff_eq]; omega
        clear h47
        go_wp2_with fail
        go_roundw
        case rel => exact ⟨k + 1, by omega, by go_num, by rw [HE.out]; exact HO, HB⟩
        case measure => simp [intOf]; omega
    · have HK := hid (show k = s.size by omega)
      have hln := HLN.out k
      rw [HK.out, HALL.out] at HO hln
      obtain ⟨o, ho⟩ : ∃ o, o = pI (bytes s) := ⟨_, rfl⟩
      have HOE := hid ho
      rw [← ho] at HO hln
      obtain ⟨a1, cap1, rfl, _⟩ := own_shape HO.out
      have HV' := hid (HV.out wr HB.out a1 cap1 o (Rd.own HO.out) (by omega))
      have HYES := hid (fun h ht => parse_impl_yes (p := p) HOE.out h ht)
      have HNO := hid (fun h => parse_impl_no (p := p) HOE.out h)
      clear ho
      by_cases hv : outValid p o = true
      · have HFM := hid (show fmtOut p o = outTxt o by unfold fmtOut; rw [if_pos hv])
        have HT' := hid (fun w' hb h' => HT.out w' hb a1 cap1 o h' (by omega))
        rw [hv] at HV'
        rw [HFM.out] at HT'
        by_cases ht : outTxt o = s
        · have HR := hid (HYES.out hv ht)
          rw [ht] at HT'
          clear hv ht
          go_wp2_with fail
          refine HV'.out.mono ?_
          rintro e w2 ⟨rfl, hb2⟩
          have HB2 := hid (HB.out.trans (hb2.mono HB.out.size))
          have HO2 := hid (own_below HO.out hb2)
          clear hb2
          go_wp2_with fail
          refine (HT'.out _ HB2.out (Rd.own HO2.out)).mono ?_
          rintro e w3 ⟨rfl, hb3⟩
          have HB3 := hid (HB2.out.trans (hb3.mono HB2.out.size))
          have HO3 := hid (own_below HO2.out hb3)
          clear hb3
          go_wp2
          go_ret2
          rw [HR.out]
          exact ⟨_, _, rfl, HO3.out, HB3.out⟩
        · have HR := hid (HNO.out (.inr ht))
          obtain ⟨T, hT⟩ : ∃ T, T = outTxt o := ⟨_, rfl⟩
          rw [← hT] at HT' ht
          have hn1 := ne_lists ht
          clear hv ht hT
          go_wp2_with fail
          refine HV'.out.mono ?_
          rintro e w2 ⟨rfl, hb2⟩
          have HB2 := hid (HB.out.trans (hb2.mono HB.out.size))
          have HO2 := hid (own_below HO.out hb2)
          clear hb2
          go_wp2_with fail
          refine (HT'.out _ HB2.out (Rd.own HO2.out)).mono ?_
          rintro e w3 ⟨rfl, hb3⟩
          have HB3 := hid (HB2.out.trans (hb3.mono HB2.out.size))
          clear hb3
          go_wp2
          go_ret2
          rw [HR.out]
          exact ⟨none, 0, rfl, own_none _ _ _ _, HB3.out⟩
      · have hv : outValid p o = false := by simpa using hv
        have HR := hid (HNO.out (.inl hv))
        rw [hv] at HV'
        clear hv
        go_wp2_with fail
        refine HV'.out.mono ?_
        rintro e w2 ⟨rfl, hb2⟩
        have HB2 := hid (HB.out.trans (hb2.mono HB.out.size))
        clear hb2
        go_wp2
        go_ret2
        rw [HR.out]
        exact ⟨none, 0, rfl, own_none _ _ _ _, HB2.out⟩
end Go.Proofs.Ythlmfjoiicnomaa
