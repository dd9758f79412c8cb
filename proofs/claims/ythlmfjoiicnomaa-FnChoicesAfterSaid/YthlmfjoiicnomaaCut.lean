/-
  PROVED HERE: what spec.l17Cut does. CONDITIONS: as each theorem states.
-/
import Derived.Test.YthlmfjoiicnomaaPsh
import Derived.Test.YthlmfjoiicnomaaTxp
import Derived.Laws.DeepStrings4
namespace Go.Proofs.Ythlmfjoiicnomaa
open Go.RowKit
set_option linter.unusedVariables false
set_option linter.unusedSimpArgs false

theorem Try.info_str : (Try.prog.info? 9).map (fun i => (i.zero, i.size, i.bytes)) = some (some (.string ⟨#[]⟩), 1, 16) := by kernel_rfl
def sL (ls : List (List UInt8)) : List Value := ls.map fun l => .string (ba l)
theorem length_sL (ls : List (List UInt8)) : (sL ls).length = ls.length := by simp [sL]
theorem set_rep {α : Type} (l : List α) (z v : α) (n k : Nat) (hl : l.length = k) (hk : k < n) : (l ++ List.replicate (n - k) z).set k v = (l ++ [v]) ++ List.replicate (n - (k + 1)) z := by
  have e : List.replicate (n - k) z = z :: List.replicate (n - (k + 1)) z := by
    rw [show n - k = (n - (k + 1)) + 1 by omega]; rfl
  rw [e, List.set_append_right _ _ (by omega), hl, Nat.sub_self, List.append_assoc]
  rfl
theorem sL_step (ls : List (List UInt8)) (n k : Nat) (y : List UInt8) (hn : ls.length = n) (hk : ls[k]? = some y) :
    (sL (ls.take k) ++ List.replicate (n - k) (Value.string ⟨#[]⟩)).set k (.string (ba y)) = sL (ls.take (k + 1)) ++ List.replicate (n - (k + 1)) (.string ⟨#[]⟩) := by
  obtain ⟨hi, rfl⟩ := List.getElem?_eq_some_iff.1 hk
  rw [set_rep _ _ _ n k (by rw [length_sL, List.length_take]; omega) (by omega), List.take_succ_eq_append_getElem hi]
  have e2 : sL (ls.take k ++ [ls[k]]) = sL (ls.take k) ++ [.string (ba ls[k])] := by simp only [sL, List.map_append]; rfl
  rw [e2]

/-- The bytes of a text, as a list. -/
abbrev bytS (s : ByteArray) : List UInt8 := s.data.toList
def cutTo (c : UInt8) (l : List UInt8) : Nat → List (List UInt8) × Nat
  | 0 => ([], 0)
  | i + 1 => if i = l.length ∨ l[i]? = some c then ((cutTo c l i).1 ++ [(l.take i).drop (cutTo c l i).2], i + 1) else cutTo c l i
/-- The pieces of a text between the bytes c. -/
def cutL (c : UInt8) (l : List UInt8) : List (List UInt8) := (cutTo c l (l.length + 1)).1
theorem cut_yes {c : UInt8} {l : List UInt8} {i : Nat} (h : i = l.length ∨ l[i]? = some c) : cutTo c l (i + 1) = ((cutTo c l i).1 ++ [(l.take i).drop (cutTo c l i).2], i + 1) := by
  show (if _ then _ else _) = _
  rw [if_pos h]
theorem cut_no {c : UInt8} {l : List UInt8} {i : Nat} (h : ¬ (i = l.length ∨ l[i]? = some c)) : cutTo c l (i + 1) = cutTo c l i := by
  show (if _ then _ else _) = _
  rw [if_neg h]
theorem cut_le (c : UInt8) (l : List UInt8) : ∀ i, (cutTo c l i).2 ≤ i ∧ (cutTo c l i).1.length ≤ i
  | 0 => ⟨Nat.le_refl _, Nat.le_refl _⟩
  | i + 1 => by
    have ih := cut_le c l i
    by_cases h : i = l.length ∨ l[i]? = some c
    · rw [cut_yes h]
      exact ⟨Nat.le_refl _, by simp; omega⟩
    · rw [cut_no h]
      omega
theorem cut_size (c : UInt8) (l : List UInt8) : ∀ i, ∀ x ∈ (cutTo c l i).1, x.length ≤ l.length
  | 0 => by simp [cutTo]
  | i + 1 => by
    have ih := cut_size c l i
    by_cases h : i = l.length ∨ l[i]? = some c
    · rw [cut_yes h]
      intro x hx
      rcases List.mem_append.1 hx with hx | hx
      · exact ih x hx
      · rw [List.mem_singleton] at hx
        subst hx
        simp
        omega
    · rw [cut_no h]
      exact ih
theorem size_bytS (s : ByteArray) : (bytS s).length = s.size := by
  show s.data.toList.length = s.data.size
  simp
theorem cut_piece (s : ByteArray) (f i : Nat) : s.extract f i = ba (((bytS s).take i).drop f) := by
  apply ByteArray.ext
  simp [ba, ByteArray.data_extract, bytS]
  apply Array.toList_inj.1
  simp [List.extract, List.drop_take]
theorem byte_get (s : ByteArray) (k : Nat) (h : k < s.size) : (bytS s)[k]? = some s[k] := by
  have : k < s.data.size := h
  simp only [bytS, Array.getElem?_toList]
  exact Array.getElem?_eq_getElem this

set_option maxHeartbeats 1600000 in
theorem l17Cut_c (w : World) (s : ByteArray) (c : Nat) (hc : c < 256) (hs : s.size ≤ 1048576) :
    Calls Try.prog 83 #[.string s, .int .u8 c] w fun e w' => ∃ a cap, e = .returned (.slice a (cutL (UInt8.ofNat c) (bytS s)).length cap) ∧ w'.ownsRow w.heap.size 9 1 (.slice a (cutL (UInt8.ofNat c) (bytS s)).length cap) (cutL (UInt8.ofNat c) (bytS s)).length (sL (cutL (UInt8.ofNat c) (bytS s))) ∧ Below w.heap.size w w' := by
  obtain ⟨C, hC⟩ : ∃ C : UInt8, C = UInt8.ofNat c := ⟨_, rfl⟩
  have HCN := hid (show C.toNat = c by rw [hC, UInt8.toNat_ofNat']; omega)
  rw [← hC]
  have HYES := hid (fun k h => cut_yes (c := C) (l := bytS s) (i := k) h)
  have HNO := hid (fun k h => cut_no (c := C) (l := bytS s) (i := k) h)
  have HLE := hid (fun k => cut_le C (bytS s) k)
  have HPC := hid (fun f i => cut_piece s f i)
  have HGET := hid (fun k h => byte_get s k h)
  have HFIN := hid (show cutL C (bytS s) = (cutTo C (bytS s) (s.size + 1)).1 by unfold cutL; rw [size_bytS])
  have HSZ := hid (size_bytS s)
  have HO0 := hid (own_lit0 w w.heap.size 9 1 (Nat.le_refl _))
  have HB0 := hid ((Below.refl w.heap.size w).alloc (Nat.le_refl _) (.cells #[] 9))
  clear hC
  go_enter Try.func83, Try.ntmps83
  go_wp2
  go_loopw [5, 6, 7] (fun v f i wr => ∃ k : Nat, k ≤ s.size + 1 ∧ i = .int .i64 k ∧ f = .int .i64 (cutTo C (bytS s) k).2 ∧ Hid (wr.ownsRow w.heap.size 9 1 v (cutTo C (bytS s) k).1.length (sL (cutTo C (bytS s) k).1)) ∧ Hid (Below w.heap.size w wr)) (fun _ _ i _ => s.size + 1 - (intOf i).toNat)
  case atStart => exact ⟨0, Nat.zero_le _, rfl, rfl, hid (by simpa [cutTo, sL] using HO0.out), HB0⟩
  case round =>
    obtain ⟨k, hk, rfl, rfl, HO, HB⟩ := hrel
    have hle := HLE.out k
    have HSY := hid (fun h => HYES.out k h)
    have HSN := hid (fun h => HNO.out k h)
    obtain ⟨O, eO⟩ : ∃ O, O = (cutTo C (bytS s) k).1 := ⟨_, rfl⟩
    obtain ⟨F, eF⟩ : ∃ F, F = (cutTo C (bytS s) k).2 := ⟨_, rfl⟩
    have HE := hid (show cutTo C (bytS s) k = (O, F) by rw [eO, eF])
    rw [← eO] at HO
    rw [← eO, ← eF] at hle
    rw [← eF]
    rw [← eO, ← eF] at HSY
    obtain ⟨hF, hOl⟩ := hle
    have hbs := HB.out.size
    clear eO eF
    by_cases hlt : k < s.size
    · have hg := HGET.out k hlt
      have e0 : ((k : Int) == (s.size : Int)) = false := by simp; omega
      by_cases hc1 : s[k] = C
      · have HK := hid (HSY.out (.inr (by rw [hg, hc1])))
        have e1 : ((s[k].toNat : Int) == (c : Int)) = true := by rw [hc1, HCN.out]; simp
        clear hg hc1
        go_wp2_with (at_builtin; refine wpList_append_one rfl (.tmp 26) (.tmp 31) 89 rfl w.heap.size 9 (.string ⟨#[]⟩) 16 Try.underlying89 Try.info_str rfl _ _ _ rfl (HO.out.alloc _) _ (.string (s.extract F k)) rfl (by simp) rfl (by omega) (by omega) (by simp; omega) ?_)
        intro v1 w4 hown1 hgrow1
        have HO4 := hid (show w4.ownsRow w.heap.size 9 1 v1 (cutTo C (bytS s) (k + 1)).1.length (sL (cutTo C (bytS s) (k + 1)).1) by
          rw [HK.out]
          show w4.ownsRow w.heap.size 9 1 v1 (O ++ [((bytS s).take k).drop F]).length (sL (O ++ [((bytS s).take k).drop F]))
          rw [List.length_append]
          simpa [sL, HPC.out] using hown1)
        have HF4 := hid (show (cutTo C (bytS s) (k + 1)).2 = k + 1 by rw [HK.out])
        have HB4 := hid ((HB.out.alloc HB.out.size _).grown hgrow1 (by simp; omega) (fun b hb => (HO.out.lt b hb).1))
        clear hown1 hgrow1
        go_wp2_with fail
        go_roundw
        case rel => exact ⟨k + 1, by omega, by go_num, by rw [HF4.out]; go_num, HO4, HB4⟩
        case measure => simp [intOf]; omega
      · have HK := hid (HSN.out (by rw [hg]; intro h; rcases h with h | h; have := HSZ.out; omega; exact hc1 (Option.some.inj h)))
        have e1 : ((s[k].toNat : Int) == (c : Int)) = false := by
          rw [beq_eq_false_iff_ne]
          intro e
          apply hc1
          apply UInt8.toNat_inj.1
          have := HCN.out
          omega
        clear hg hc1
        go_wp2_with fail
        go_roundw
        case rel => exact ⟨k + 1, by omega, by go_num, by rw [HK.out, HE.out], by rw [HK.out, HE.out]; exact HO, HB⟩
        case measure => simp [intOf]; omega
    · by_cases hkn : k = s.size
      · have HK := hid (HSY.out (.inl (by rw [HSZ.out]; exact hkn)))
        have e0 : ((k : Int) == (s.size : Int)) = true := by rw [hkn]; simp
        have hkl : k ≤ s.size := by omega
        clear hkn hlt
        go_wp2_with (at_builtin; refine wpList_append_one rfl (.tmp 26) (.tmp 31) 89 rfl w.heap.size 9 (.string ⟨#[]⟩) 16 Try.underlying89 Try.info_str rfl _ _ _ rfl (HO.out.alloc _) _ (.string (s.extract F k)) rfl (by simp) rfl (by omega) (by omega) (by simp; omega) ?_)
        intro v1 w4 hown1 hgrow1
        have HO4 := hid (show w4.ownsRow w.heap.size 9 1 v1 (cutTo C (bytS s) (k + 1)).1.length (sL (cutTo C (bytS s) (k + 1)).1) by
          rw [HK.out]
          show w4.ownsRow w.heap.size 9 1 v1 (O ++ [((bytS s).take k).drop F]).length (sL (O ++ [((bytS s).take k).drop F]))
          rw [List.length_append]
          simpa [sL, HPC.out] using hown1)
        have HF4 := hid (show (cutTo C (bytS s) (k + 1)).2 = k + 1 by rw [HK.out])
        have HB4 := hid ((HB.out.alloc HB.out.size _).grown hgrow1 (by simp; omega) (fun b hb => (HO.out.lt b hb).1))
        clear hown1 hgrow1
        go_wp2_with fail
        go_roundw
        case rel => exact ⟨k + 1, by omega, by go_num, by rw [HF4.out]; go_num, HO4, HB4⟩
        case measure => simp [intOf]; omega
      · have HK := hid (show k = s.size + 1 by omega)
        have e0 : decide ((k : Int) ≤ (s.size : Int)) = false := by rw [decide_eq_false_iff_not]; omega
        have e0' : decide (k ≤ s.size) = false := by rw [decide_eq_false_iff_not]; omega
        have e0'' : s.size < k := by omega
        obtain ⟨a1, cap1, rfl, _⟩ := own_shape HO.out
        have HR := hid (show (cutL C (bytS s)) = O by rw [HFIN.out, ← HK.out, HE.out])
        clear hkn hlt
        go_wp2
        go_ret
        rw [HR.out]
        exact ⟨_, _, rfl, HO.out, HB.out⟩
end Go.Proofs.Ythlmfjoiicnomaa
