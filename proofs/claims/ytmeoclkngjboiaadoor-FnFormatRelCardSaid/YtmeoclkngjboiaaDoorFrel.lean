/-
  PROVED HERE: texts of relations, and what FormatRel of both packages does. CONDITIONS: as each theorem states.
-/
import Derived.Test.YtmeoclkngjboiaaDoorRelK
import Derived.Test.YtmeoclkngjboiaaDoorRelH
import Derived.Test.YtmeoclkngjboiaaDoorItoa
import Derived.Test.YtmeoclkngjboiaaDoorShf
import Derived.Lib.Join
namespace Go.Proofs.YtmeoclkngjboiaaDoor
open Go.RowKit
set_option linter.unusedVariables false
set_option linter.unusedSimpArgs false

namespace FR
def ba (l : List UInt8) : ByteArray := ⟨l.toArray⟩
theorem ba_append (l l' : List UInt8) : ba l ++ ba l' = ba (l ++ l') := by
  apply ByteArray.ext
  rw [ByteArray.data_append]
  show l.toArray ++ l'.toArray = (l ++ l').toArray
  simp
theorem ba_size (l : List UInt8) : (ba l).size = l.length := by
  show l.toArray.size = _
  simp
theorem join_succ (ls : List (List UInt8)) (sep : List UInt8) (k : Nat) (y : List UInt8) (h : ls[k]? = some y) :
    Lib.join (ls.take (k + 1)) sep = (if 0 < k then Lib.join (ls.take k) sep ++ sep else []) ++ y := by
  cases ls with
  | nil => simp at h
  | cons x r =>
    cases k with
    | zero =>
      simp only [List.getElem?_cons_zero, Option.some.injEq] at h
      subst h
      simp [Lib.join_one]
    | succ k =>
      have h' : r[k]? = some y := by simpa using h
      rw [List.take_succ_cons, List.take_succ_cons, Lib.join_cons, Lib.join_cons, Lib.joinTail_take_succ sep r k y h', if_pos (by omega)]
      simp [List.append_assoc]
theorem join_snoc (ws : List (List UInt8)) (sep y : List UInt8) : Lib.join (ws ++ [y]) sep = (if 0 < ws.length then Lib.join ws sep ++ sep else []) ++ y := by
  have h := join_succ (ws ++ [y]) sep ws.length y (by simp)
  rw [List.take_of_length_le (by simp), List.take_left' rfl] at h
  exact h
theorem dec_len (n : Nat) (h : n ≤ 15) : 1 ≤ (Lib.decDigits n).length ∧ (Lib.decDigits n).length ≤ 2 := by
  by_cases h1 : n < 10
  · rw [Lib.decDigits_one h1]; exact ⟨by simp, by simp⟩
  · rw [Lib.decDigits_two h1 (by omega)]; exact ⟨by simp, by simp⟩
def pairL (i k : Nat) : List UInt8 := Lib.decDigits i ++ [62] ++ Lib.decDigits k
theorem pair_len {i k : Nat} (hi : i ≤ 15) (hk : k ≤ 15) : (pairL i k).length ≤ 5 := by
  have := dec_len i hi
  have := dec_len k hk
  unfold pairL
  simp
  omega
def rowW (ns : List Nat) (i : Nat) : Nat → List (List UInt8)
  | 0 => []
  | k + 1 => rowW ns i k ++ if (ns.getD i 0).testBit k then [pairL i k] else []
def relW (ns : List Nat) : Nat → List (List UInt8)
  | 0 => []
  | i + 1 => relW ns i ++ rowW ns i ns.length
def wAt (ns : List Nat) (i k : Nat) : List (List UInt8) := relW ns i ++ rowW ns i k
theorem wAt_zero (ns : List Nat) (i : Nat) : wAt ns i 0 = relW ns i := by simp [wAt, rowW]
theorem wAt_all (ns : List Nat) (i : Nat) : wAt ns i ns.length = relW ns (i + 1) := rfl
theorem wAt_yes {ns : List Nat} {i k : Nat} (h : (ns.getD i 0).testBit k = true) : wAt ns i (k + 1) = wAt ns i k ++ [pairL i k] := by
  simp only [wAt, rowW, h, if_true, List.append_assoc]
theorem wAt_no {ns : List Nat} {i k : Nat} (h : (ns.getD i 0).testBit k = false) : wAt ns i (k + 1) = wAt ns i k := by
  simp only [wAt, rowW, h]
  simp
theorem rowW_len (ns : List Nat) (i : Nat) : ∀ k, (rowW ns i k).length ≤ k
  | 0 => by simp [rowW]
  | k + 1 => by
    have := rowW_len ns i k
    unfold rowW
    rw [List.length_append]
    split <;> simp <;> omega
theorem relW_len {ns : List Nat} (hn : ns.length ≤ 16) : ∀ i, (relW ns i).length ≤ 16 * i
  | 0 => by simp [relW]
  | i + 1 => by
    have := relW_len hn i
    have := rowW_len ns i ns.length
    unfold relW
    rw [List.length_append]
    omega
theorem wAt_len {ns : List Nat} (hn : ns.length ≤ 16) {i k : Nat} (hi : i ≤ 16) (hk : k ≤ 16) : (wAt ns i k).length ≤ 272 := by
  have := relW_len hn i
  have := rowW_len ns i k
  unfold wAt
  rw [List.length_append]
  omega
theorem mem_rowW {ns : List Nat} {i : Nat} {l : List UInt8} : ∀ {k : Nat}, l ∈ rowW ns i k → ∃ j, j < k ∧ l = pairL i j
  | 0, h => by simp [rowW] at h
  | k + 1, h => by
    unfold rowW at h
    rw [List.mem_append] at h
    rcases h with h | h
    · obtain ⟨j, hj, e⟩ := mem_rowW h
      exact ⟨j, by omega, e⟩
    · split at h
      · exact ⟨k, by omega, by simpa using h⟩
      · simp at h
theorem mem_relW {ns : List Nat} {l : List UInt8} : ∀ {i : Nat}, l ∈ relW ns i → ∃ j k, j < i ∧ k < ns.length ∧ l = pairL j k
  | 0, h => by simp [relW] at h
  | i + 1, h => by
    unfold relW at h
    rw [List.mem_append] at h
    rcases h with h | h
    · obtain ⟨j, k, hj, hk, e⟩ := mem_relW h
      exact ⟨j, k, by omega, hk, e⟩
    · obtain ⟨k, hk, e⟩ := mem_rowW h
      exact ⟨i, k, by omega, hk, e⟩
theorem join_len : ∀ ls : List (List UInt8), (∀ l ∈ ls, l.length ≤ 5) → (Lib.join ls [32]).length ≤ 6 * ls.length
  | [], _ => by simp [Lib.join_nil]
  | x :: r, h => by
    have h1 := h x List.mem_cons_self
    have h2 : Lib.lens r ≤ 5 * r.length := by
      have : ∀ ls : List (List UInt8), (∀ l ∈ ls, l.length ≤ 5) → Lib.lens ls ≤ 5 * ls.length := by
        intro ls
        induction ls with
        | nil => intro _; simp [Lib.lens]
        | cons y ls ih =>
          intro hl
          have a1 := hl y List.mem_cons_self
          have a2 := ih fun l hl' => hl l (List.mem_cons_of_mem _ hl')
          simp only [Lib.lens, List.map_cons, List.sum_cons, List.length_cons, Nat.mul_succ] at a2 ⊢
          omega
      exact this r fun l hl => h l (List.mem_cons_of_mem _ hl)
    rw [Lib.join_cons, List.length_append, Lib.joinTail_length, List.length_cons]
    simp only [List.length_cons, List.length_nil, Nat.zero_add, Nat.one_mul, Nat.mul_one]
    omega
theorem wAt_text {ns : List Nat} (hn : ns.length ≤ 16) {i k : Nat} (hi : i ≤ 15) (hk : k ≤ ns.length) : (Lib.join (wAt ns i k) [32]).length ≤ 1632 := by
  have h1 := join_len (wAt ns i k) fun l hl => by
    unfold wAt at hl
    rw [List.mem_append] at hl
    rcases hl with hl | hl
    · obtain ⟨j, m, hj, hm, rfl⟩ := mem_relW hl
      exact pair_len (by omega) (by omega)
    · obtain ⟨m, hm, rfl⟩ := mem_rowW hl
      exact pair_len hi (by omega)
  have h2 := wAt_len (i := i) (k := k) hn (by omega) (by omega)
  omega
theorem relW_text {ns : List Nat} (hn : ns.length ≤ 16) {i : Nat} (hi : i ≤ 16) : (Lib.join (relW ns i) [32]).length ≤ 1632 := by
  have h1 := join_len (relW ns i) fun l hl => by
    obtain ⟨j, m, hj, hm, rfl⟩ := mem_relW hl
    exact pair_len (by omega) (by omega)
  have h2 := relW_len hn i
  omega
/-- A text is empty when there is no word. -/
theorem join_empty {ns : List Nat} {i k : Nat} (h : 0 < (wAt ns i k).length) : 0 < (Lib.join (wAt ns i k) [32]).length := by
  have hw : ∀ l ∈ wAt ns i k, 0 < l.length := fun l hl => by
    unfold wAt at hl
    rw [List.mem_append] at hl
    rcases hl with hl | hl
    · obtain ⟨j, m, hj, hm, rfl⟩ := mem_relW hl
      simp [pairL]
      omega
    · obtain ⟨m, hm, rfl⟩ := mem_rowW hl
      simp [pairL]
      omega
  generalize wAt ns i k = ws at h hw
  cases ws with
  | nil => simp at h
  | cons x r =>
    have := hw x List.mem_cons_self
    rw [Lib.join_cons, List.length_append]
    omega
/-- The text of a relation. -/
def fmtR (xs : List Int) : ByteArray := if relValid xs then ba (Lib.join (relW (xs.map Int.toNat) xs.length) [32]) else ⟨#[]⟩
theorem fmtR_no {xs : List Int} (h : relValid xs = false) : fmtR xs = ⟨#[]⟩ := by simp [fmtR, h]
theorem fmtR_yes {us : List Nat} (h : Ok us) : fmtR (castI us) = ba (Lib.join (relW us us.length) [32]) := by simp [fmtR, valid_castI h, toNat_castI, length_castI]
theorem ba_ne {l : List UInt8} (h : 0 < l.length) : (ba l).toList.isEmpty = false := by
  rw [ByteArray.toList_eq]
  show l.isEmpty = false
  cases l with
  | nil => simp at h
  | cons _ _ => rfl
theorem ba_em : (ba []).toList.isEmpty = true := by rw [ByteArray.toList_eq]; rfl

set_option maxHeartbeats 1600000 in
theorem frS_c (w : World) (a : Option Addr) (cap : Nat) (xs : List Int) (h : Rd w a (ints xs)) (hl : xs.length ≤ 1048576) :
    Calls Tryd.prog 19 #[.slice a xs.length cap] w fun e w' => e = .returned (.string (fmtR xs)) ∧ Below w.heap.size w w' := by
  have C1 := hid (fun w' (hb : Below w.heap.size w w') => relValidS_c w' a cap xs (h.below hb) hl)
  by_cases hv : relValid xs = true
  · rw [hv] at C1
    obtain ⟨us, rfl, ho⟩ := ok_of_valid hv
    rw [fmtR_yes ho]
    rw [ints_castI] at h
    rw [length_castI] at C1 ⊢
    have hn := ho.len
    have HY := hid (fun i k hb => wAt_yes (ns := us) (i := i) (k := k) hb)
    have HNo := hid (fun i k hb => wAt_no (ns := us) (i := i) (k := k) hb)
    have HTX := hid (fun i k => wAt_text (ns := us) (i := i) (k := k) hn)
    have HEM := hid (fun i k => join_empty (ns := us) (i := i) (k := k))
    have HZ := hid (wAt_zero us)
    have HAL := hid (wAt_all us)
    have HC := hid (fun w' (hb : Below w.heap.size w w') i k hi hk => l2Has_c w' a cap us i k (h.below hb) ho hi hk)
    obtain ⟨n, hnn⟩ : ∃ n, n = us.length := ⟨_, rfl⟩
    rw [← hnn] at C1 HTX HAL HC hn ⊢
    clear hnn h hv hl ho
    go_enter Tryd.func19, Tryd.ntmps19
    go_wp2
    go_loopw [3, 4] (fun s i wr => ∃ j : Nat, j ≤ n ∧ i = .int .i64 j ∧ s = .string (ba (Lib.join (relW us j) [32])) ∧ Hid (Below w.heap.size w wr)) (fun _ i _ => n - (intOf i).toNat)
    case atStart => exact ⟨0, Nat.zero_le _, rfl, rfl, hid (Below.refl _ _)⟩
    case round =>
      obtain ⟨j, hj, rfl, rfl, HB⟩ := hrel
      by_cases hlt : j < n
      · have hlt' : (j : Int) < n := by omega
        go_wp2_with fail
        refine (C1.out _ HB.out).mono ?_
        rintro e w1 ⟨rfl, hb1⟩
        have HB1 := hid (HB.out.trans (hb1.mono HB.out.size))
        clear hb1
        go_wp2_with fail
        rw [← HZ.out]
        go_loopw [3, 5] (fun s k wr => ∃ t : Nat, t ≤ n ∧ k = .int .i64 t ∧ s = .string (ba (Lib.join (wAt us j t) [32])) ∧ Hid (Below w.heap.size w wr)) (fun _ k _ => n - (intOf k).toNat)
        case atStart => exact ⟨0, Nat.zero_le _, rfl, rfl, HB1⟩
        case round =>
          obtain ⟨t, ht, rfl, rfl, HB2⟩ := hrel
          by_cases hlm : t < n
          · have hltm : (t : Int) < n := by omega
            have HH := hid (HC.out _ HB2.out j t hlt (by omega))
            have HYt := hid (HY.out j t)
            have HNt := hid (HNo.out j t)
            obtain ⟨b, hb⟩ : ∃ b, b = (us.getD j 0).testBit t := ⟨_, rfl⟩
            rw [← hb] at HH HYt HNt
            clear hb
            have htx := HTX.out j t (by omega) (by omega)
            cases b with
            | false =>
              have HE := hid (HNt.out rfl)
              go_wp2_with fail
              refine HH.out.mono ?_
              rintro e w2 ⟨rfl, rfl⟩
              go_wp2_with fail
              go_roundw
              case rel => exact ⟨t + 1, by omega, by go_num, by rw [HE.out], HB2⟩
              case measure => simp [intOf]; omega
            | true =>
              have HJ := hid (join_snoc (wAt us j t) [32] (pairL j t))
              rw [← HYt.out rfl] at HJ
              have HEt := hid (HEM.out j t)
              have hD1 := dec_len j (by omega)
              have hD2 := dec_len t (by omega)
              have HD1 := hid (fun w => dec_c w j (by omega))
              have HD2 := hid (fun w => dec_c w t (by omega))
              obtain ⟨L, hL⟩ : ∃ L, L = Lib.join (wAt us j t) [32] := ⟨_, rfl⟩
              rw [← hL] at HJ HEt htx ⊢
              have HPR := hid (show pairL j t = Lib.decDigits j ++ [62] ++ Lib.decDigits t from rfl)
              rw [HPR.out] at HJ
              obtain ⟨I, hI⟩ : ∃ I, I = Lib.decDigits j := ⟨_, rfl⟩
              obtain ⟨K, hK⟩ : ∃ K, K = Lib.decDigits t := ⟨_, rfl⟩
              rw [← hI] at HJ hD1 HD1
              rw [← hK] at HJ hD2 HD2
              have HD1' : Hid (∀ w, Calls Tryd.prog 50 #[.int .i64 j] w fun e w' => e = .returned (.string (ba I)) ∧ Below w.heap.size w w') := HD1
              have HD2' : Hid (∀ w, Calls Tryd.prog 50 #[.int .i64 t] w fun e w' => e = .returned (.string (ba K)) ∧ Below w.heap.size w w') := HD2
              have sI : (ba I).size ≤ 2 := by rw [ba_size]; exact hD1.2
              have sK : (ba K).size ≤ 2 := by rw [ba_size]; exact hD2.2
              have HQ : ∃ Q, Hid (Lib.join (wAt us j (t + 1)) [32] = Q ++ (I ++ [62] ++ K)) ∧ Hid (Q.length ≤ 1633) ∧ Hid ((0 < (wAt us j t).length ∧ (ba L).toList.isEmpty = false ∧ ba L ++ ⟨#[32]⟩ = ba Q) ∨ ((ba L).toList.isEmpty = true ∧ ba L = ba Q)) := by
                by_cases h0 : 0 < (wAt us j t).length
                · refine ⟨L ++ [32], hid (by rw [HJ.out, if_pos h0]), hid (by simp; omega), hid (.inl ⟨h0, ba_ne (HEt.out h0), ba_append L [32]⟩)⟩
                · have h00 : wAt us j t = [] := List.eq_nil_of_length_eq_zero (by omega)
                  have hL0 : L = [] := by rw [hL, h00]; exact Lib.join_nil _
                  refine ⟨[], hid (by rw [HJ.out, if_neg h0]), hid (by simp), hid (.inr ⟨by rw [hL0]; exact ba_em, by rw [hL0]⟩)⟩
              obtain ⟨Q, HQ1, HQ2, HQ3⟩ := HQ
              have sL : (ba L).size ≤ 1632 := by rw [ba_size]; exact htx
              have sQ : (ba Q).size ≤ 1633 := by rw [ba_size]; exact HQ2.out
              have sQ1 : (ba Q ++ ba I).size ≤ 1635 := by rw [ByteArray.size_append]; omega
              have sQ2 : (ba Q ++ ba I ++ ⟨#[62]⟩).size ≤ 1636 := by rw [ByteArray.size_append]; show (ba Q ++ ba I).size + 1 ≤ _; omega
              have HFIN : Hid (ba Q ++ ba I ++ ⟨#[62]⟩ ++ ba K = ba (Lib.join (wAt us j (t + 1)) [32])) := by
                rw [HQ1.out, ba_append]
                have e1 : ba (Q ++ I) ++ ⟨#[62]⟩ = ba (Q ++ I ++ [62]) := ba_append (Q ++ I) [62]
                rw [e1, ba_append]
                exact hid (by simp [List.append_assoc])
              clear hL hI hK hD1 hD2 htx HD1 HD2
              rcases HQ3.out with ⟨_, hne, heq⟩ | ⟨hne, heq⟩
              all_goals
                have HEQ := hid heq
                clear heq
                go_wp2_with fail
                refine HH.out.mono ?_
                rintro e w2 ⟨rfl, rfl⟩
                go_wp2_with fail
                rw [HEQ.out]
                refine (HD1'.out _).mono ?_
                rintro e w3 ⟨rfl, hb3⟩
                have HB3 := hid (HB2.out.trans (hb3.mono HB2.out.size))
                clear hb3
                go_wp2_with fail
                refine (HD2'.out _).mono ?_
                rintro e w4 ⟨rfl, hb4⟩
                have HB4 := hid (HB3.out.trans (hb4.mono HB3.out.size))
                clear hb4
                go_wp2_with fail
                rw [HFIN.out]
                go_roundw
                case rel => exact ⟨t + 1, by omega, by go_num, rfl, HB4⟩
                case measure => simp [intOf]; omega
          · have HTM := hid (show t = n by omega)
            rw [HTM.out, HAL.out]
            go_wp2_with fail
            go_roundw
            case rel => exact ⟨j + 1, by omega, by go_num, rfl, HB2⟩
            case measure => simp [intOf]; omega
      · have HJ := hid (show j = n by omega)
        rw [HJ.out]
        go_wp2
        go_ret
        exact ⟨rfl, HB.out⟩
  · have hv : relValid xs = false := by simpa using hv
    rw [hv] at C1
    rw [fmtR_no hv]
    have hpos : 0 < xs.length := by
      cases xs with
      | nil => exact absurd hv (by decide)
      | cons _ _ => simp
    obtain ⟨n, hn⟩ : ∃ n, n = xs.length := ⟨_, rfl⟩
    rw [← hn] at C1 hpos ⊢
    have hpos' : (0 : Int) < n := by omega
    clear hv h hn hl
    go_enter Tryd.func19, Tryd.ntmps19
    go_wp2
    go_loopw [3, 4] (fun s i wr => s = .string ⟨#[]⟩ ∧ i = .int .i64 0 ∧ wr = w) (fun _ _ _ => 0)
    case atStart => exact ⟨rfl, rfl, rfl⟩
    case round =>
      obtain ⟨rfl, rfl, rfl⟩ := hrel
      go_wp2_with fail
      refine (C1.out _ (Below.refl _ _)).mono ?_
      rintro e w1 ⟨rfl, hb1⟩
      go_wp2
      go_ret
      exact ⟨rfl, hb1⟩

theorem Tryd.info_str : (Tryd.prog.info? 9).map (fun i => (i.zero, i.size, i.bytes)) = some (some (.string ⟨#[]⟩), 1, 16) := by kernel_rfl
def sL (ls : List (List UInt8)) : List Value := ls.map fun l => .string (ba l)
theorem length_sL (ls : List (List UInt8)) : (sL ls).length = ls.length := by simp [sL]
theorem sL_append (ls : List (List UInt8)) (y : List UInt8) : sL (ls ++ [y]) = sL ls ++ [.string (ba y)] := by simp [sL]
theorem join_c (w : World) (base cap : Nat) (a : Option Addr) (ls : List (List UInt8)) (c : UInt8) (h : w.ownsRow base 9 1 (.slice a ls.length cap) ls.length (sL ls)) (hlen : (Lib.join ls [c]).length ≤ 1000000) (hls : ls.length ≤ 1000000) :
    Calls Tryd.prog 36 #[.slice a ls.length cap, .string ⟨#[c]⟩] w fun e w' => e = .returned (.string (ba (Lib.join ls [c]))) ∧ Below w.heap.size w w' := by
  by_cases h0 : ls.length = 0
  · have e : ls = [] := List.eq_nil_of_length_eq_zero h0
    subst e
    refine (Go.Proofs.YtmeoclkngjboiaaDoor.Tryd.strings_Join_none a cap ⟨#[c]⟩ w).mono ?_
    rintro e w' ⟨rfl, rfl⟩
    exact ⟨rfl, Below.refl _ _⟩
  · obtain ⟨g, rfl, _, hg⟩ := own_some h (by omega)
    have hcap : ls.length ≤ cap := by
      rcases h.2 with ⟨_, h1⟩ | ⟨g', cap', cur, hv, _, _, hc, _⟩
      · omega
      · simp only [Value.slice.injEq, true_and] at hv
        obtain ⟨_, rfl⟩ := hv
        exact hc
    have hm : (ls.map ba).map (·.data.toList) = ls := by
      rw [List.map_map]
      have : ((fun x : ByteArray => x.data.toList) ∘ ba) = id := by funext l; rfl
      rw [this, List.map_id]
    have := Go.Proofs.YtmeoclkngjboiaaDoor.Tryd.strings_Join g 0 cap (ls.map ba) ⟨#[c]⟩ w (fun j x hx => by
      have hj := (List.getElem?_eq_some_iff.1 hx).1
      rw [List.length_map] at hj
      rw [Nat.zero_add, h.cellAt j (by omega)]
      simp [sL, hj] at hx ⊢
      exact hx) hg (by rw [List.length_map]; omega) (by rw [List.length_map]; exact hcap) (by rw [hm]; exact Nat.le_trans hlen (by decide))
    rw [hm, List.length_map] at this
    exact this

set_option maxRecDepth 100000 in
set_option maxHeartbeats 1600000 in
theorem frI_c (w : World) (a : Option Addr) (cap : Nat) (xs : List Int) (h : Rd w a (ints xs)) (hl : xs.length ≤ 1048576) :
    Calls Tryd.prog 21 #[.slice a xs.length cap] w fun e w' => e = .returned (.string (fmtR xs)) ∧ Below w.heap.size w w' := by
  have C1 := hid (relValidI_c w a cap xs h hl)
  by_cases hv : relValid xs = true
  · rw [hv] at C1
    obtain ⟨us, rfl, ho⟩ := ok_of_valid hv
    rw [fmtR_yes ho]
    rw [ints_castI] at h
    rw [length_castI] at C1 ⊢
    have hn := ho.len
    have HY := hid (fun i k hb => wAt_yes (ns := us) (i := i) (k := k) hb)
    have HNo := hid (fun i k hb => wAt_no (ns := us) (i := i) (k := k) hb)
    have HLN := hid (fun i k => wAt_len (ns := us) (i := i) (k := k) hn)
    have HTX := hid (relW_text (ns := us) hn hn)
    have HRL := hid (relW_len (ns := us) hn us.length)
    have HZ := hid (wAt_zero us)
    have HAL := hid (wAt_all us)
    have HC := hid (fun w' (hb : Below w.heap.size w w') i k hi hk => related_c w' a cap us i k (h.below hb) ho hi hk)
    have HAP := hid sL_append
    obtain ⟨n, hnn⟩ : ∃ n, n = us.length := ⟨_, rfl⟩
    rw [← hnn] at C1 HTX HRL HAL HC hn ⊢
    clear hnn h hv hl ho
    go_enter Tryd.func21, Tryd.ntmps21
    go_wp2_with fail
    refine C1.out.mono ?_
    rintro e w1 ⟨rfl, hb1⟩
    have HB1 := hid hb1
    clear hb1
    have HO1 := hid (World.ownsRow_nil w1 w.heap.size 9 1)
    go_wp2
    go_loopw [3, 11] (fun v i wr => ∃ j : Nat, j ≤ n ∧ i = .int .i64 j ∧ Hid (wr.ownsRow w.heap.size 9 1 v (relW us j).length (sL (relW us j))) ∧ Hid (Below w.heap.size w wr)) (fun _ i _ => n - (intOf i).toNat)
    case atStart => exact ⟨0, Nat.zero_le _, rfl, HO1, HB1⟩
    case round =>
      obtain ⟨j, hj, rfl, HO, HB⟩ := hrel
      by_cases hlt : j < n
      · have hlt' : (j : Int) < n := by omega
        rw [← HZ.out] at HO
        go_wp2_with fail
        go_loopw [3, 16] (fun v k wr => ∃ t : Nat, t ≤ n ∧ k = .int .i64 t ∧ Hid (wr.ownsRow w.heap.size 9 1 v (wAt us j t).length (sL (wAt us j t))) ∧ Hid (Below w.heap.size w wr)) (fun _ k _ => n - (intOf k).toNat)
        case atStart => exact ⟨0, Nat.zero_le _, rfl, HO, HB⟩
        case round =>
          obtain ⟨t, ht, rfl, HOt, HB2⟩ := hrel
          by_cases hlm : t < n
          · have hltm : (t : Int) < n := by omega
            have HH := hid (HC.out _ HB2.out j t hlt (by omega))
            have HYt := hid (HY.out j t)
            have HNt := hid (HNo.out j t)
            obtain ⟨b, hb⟩ : ∃ b, b = (us.getD j 0).testBit t := ⟨_, rfl⟩
            rw [← hb] at HH HYt HNt
            clear hb
            have hln := HLN.out j t (by omega) (by omega)
            have hbs := HB2.out.size
            cases b with
            | false =>
              have HE := hid (HNt.out rfl)
              go_wp2_with fail
              refine HH.out.mono ?_
              rintro e w2 ⟨rfl, rfl⟩
              go_wp2_with fail
              go_roundw
              case rel => exact ⟨t + 1, by omega, by go_num, by rw [HE.out]; exact HOt, HB2⟩
              case measure => simp [intOf]; omega
            | true =>
              have HE := hid (HYt.out rfl)
              have hD1 := dec_len j (by omega)
              have hD2 := dec_len t (by omega)
              have HD1 := hid (fun w => itoa_c w j (by omega))
              have HD2 := hid (fun w => itoa_c w t (by omega))
              have HPR := hid (show pairL j t = Lib.decDigits j ++ [62] ++ Lib.decDigits t from rfl)
              rw [HPR.out] at HE
              obtain ⟨I, hI⟩ : ∃ I, I = Lib.decDigits j := ⟨_, rfl⟩
              obtain ⟨K, hK⟩ : ∃ K, K = Lib.decDigits t := ⟨_, rfl⟩
              rw [← hI] at HE hD1 HD1
              rw [← hK] at HE hD2 HD2
              have HD1' : Hid (∀ w, Calls Tryd.prog 53 #[.int .i64 j] w fun e w' => e = .returned (.string (ba I)) ∧ w' = w) := HD1
              have HD2' : Hid (∀ w, Calls Tryd.prog 53 #[.int .i64 t] w fun e w' => e = .returned (.string (ba K)) ∧ w' = w) := HD2
              have sI : (ba I).size ≤ 2 := by rw [ba_size]; exact hD1.2
              have sK : (ba K).size ≤ 2 := by rw [ba_size]; exact hD2.2
              have sI2 : (ba I ++ ⟨#[62]⟩).size ≤ 3 := by rw [ByteArray.size_append]; show (ba I).size + 1 ≤ _; omega
              have HFIN : Hid (ba I ++ ⟨#[62]⟩ ++ ba K = ba (I ++ [62] ++ K)) := by
                have e1 : ba I ++ ⟨#[62]⟩ = ba (I ++ [62]) := ba_append I [62]
                rw [e1, ba_append]
                exact hid rfl
              obtain ⟨P, hP⟩ : ∃ P, P = I ++ [62] ++ K := ⟨_, rfl⟩
              rw [← hP] at HE HFIN
              have HAw := hid (HAP.out (wAt us j t) P)
              obtain ⟨W, hW⟩ : ∃ W, W = wAt us j t := ⟨_, rfl⟩
              rw [← hW] at HOt hln HE HAw
              clear hI hK hD1 hD2 HD1 HD2 hP hW
              go_wp2_with fail
              refine HH.out.mono ?_
              rintro e w2 ⟨rfl, rfl⟩
              go_wp2_with fail
              refine (HD1'.out _).mono ?_
              rintro e w3 ⟨rfl, rfl⟩
              go_wp2_with fail
              refine (HD2'.out _).mono ?_
              rintro e w4 ⟨rfl, rfl⟩
              go_wp2_with (at_builtin; rw [HFIN.out]; refine wpList_append_one rfl (.tmp 23) (.tmp 30) 42 rfl w.heap.size 9 (.string ⟨#[]⟩) 16 Tryd.underlying42 Tryd.info_str rfl _ _ _ rfl (HOt.out.alloc _) _ (.string (ba P)) rfl (by simp) rfl (by omega) (by omega) (by simp; omega) ?_)
              intro v1 w5 hown1 hgrow1
              have HO5 := hid (show w5.ownsRow w.heap.size 9 1 v1 (wAt us j (t + 1)).length (sL (wAt us j (t + 1))) by
                rw [HE.out, HAw.out, List.length_append]
                exact hown1)
              have HB5 := hid ((HB2.out.alloc HB2.out.size _).grown hgrow1 (by simp; omega) (fun b hb => (HOt.out.lt b hb).1))
              clear hown1 hgrow1
              go_wp2_with fail
              go_roundw
              case rel => exact ⟨t + 1, by omega, by go_num, HO5, HB5⟩
              case measure => simp [intOf]; omega
          · have HTM := hid (show t = n by omega)
            rw [HTM.out, HAL.out] at HOt
            go_wp2_with fail
            go_roundw
            case rel => exact ⟨j + 1, by omega, by go_num, HOt, HB2⟩
            case measure => simp [intOf]; omega
      · have HJ := hid (show j = n by omega)
        rw [HJ.out] at HO
        obtain ⟨a1, cap1, rfl, _⟩ := own_shape HO.out
        have hrl := HRL.out
        have htx := HTX.out
        have HJC := hid (fun hh => join_c _ w.heap.size cap1 a1 (relW us n) 32 HO.out (by omega) hh)
        have HJD := hid (HJC.out (by omega))
        go_wp2_with fail
        refine HJD.out.mono ?_
        rintro e w5 ⟨rfl, hb5⟩
        have HB5 := hid (HB.out.trans (hb5.mono HB.out.size))
        clear hb5
        go_wp2
        go_ret
        exact ⟨rfl, HB5.out⟩
  · have hv : relValid xs = false := by simpa using hv
    rw [hv] at C1
    rw [fmtR_no hv]
    clear hv h
    go_enter Tryd.func21, Tryd.ntmps21
    go_wp2_with fail
    refine C1.out.mono ?_
    rintro e w1 ⟨rfl, hb1⟩
    go_wp2
    go_ret
    exact ⟨rfl, hb1⟩
end FR
end Go.Proofs.YtmeoclkngjboiaaDoor
