/-
  PROVED HERE: plain facts on texts of programs, and what spec.l1Program and FormatProgram do. CONDITIONS: as each theorem states.
-/
import Derived.Test.YthlmfjoiicnomaaVav
import Derived.Test.YthlmfjoiicnomaaFmt
import Derived.Lib.Join
namespace Go.Proofs.Ythlmfjoiicnomaa
open Go.RowKit
set_option linter.unusedVariables false
set_option linter.unusedSimpArgs false

/-- A text of bytes. -/
def ba (l : List UInt8) : ByteArray := ⟨l.toArray⟩
theorem ba_append (l l' : List UInt8) : ba l ++ ba l' = ba (l ++ l') := by
  apply ByteArray.ext
  rw [ByteArray.data_append]
  show l.toArray ++ l'.toArray = (l ++ l').toArray
  simp
theorem ba_size (l : List UInt8) : (ba l).size = l.length := by
  show l.toArray.size = _
  simp
def insL (x : Ins) : List UInt8 := (insTxt x).data.toList
theorem ba_ins (x : Ins) : insTxt x = ba (insL x) := rfl
theorem insL_le (x : Ins) : (insL x).length ≤ 5 := by
  show (insTxt x).data.toList.length ≤ 5
  rw [Array.length_toList]
  show (insTxt x).size ≤ 5
  unfold insTxt
  split
  · rw [ByteArray.size_append, ByteArray.size_append]; show 1 + 1 + 1 ≤ 5; decide
  · split
    · rw [ByteArray.size_append, ByteArray.size_append]; show 1 + 1 + 1 ≤ 5; decide
    · split
      · rw [ByteArray.size_append, ByteArray.size_append]; show 1 + 1 + 1 ≤ 5; decide
      · split
        · rw [ByteArray.size_append, ByteArray.size_append, ByteArray.size_append, ByteArray.size_append]; show 1 + 1 + 1 + 1 + 1 ≤ 5; decide
        · decide

theorem join_succ (ls : List (List UInt8)) (sep : List UInt8) (k : Nat) (y : List UInt8) (h : ls[k]? = some y) :
    Lib.join (ls.take (k + 1)) sep = (if 0 < k then Lib.join (ls.take k) sep ++ sep else []) ++ y := by
  cases ls with
  | nil => simp at h
  | cons x r =>
    cases k with
    | zero =>
      simp only [List.getElem?_cons_zero, Option.some.injEq] at h
      subst h
      simp [Lib.join_one]
    | succ k =>
      have h' : r[k]? = some y := by simpa using h
      rw [List.take_succ_cons, List.take_succ_cons, Lib.join_cons, Lib.join_cons, Lib.joinTail_take_succ sep r k y h', if_pos (by omega)]
      simp [List.append_assoc]
theorem join_le (m : Nat) (sep : List UInt8) : ∀ ls : List (List UInt8), (∀ l ∈ ls, l.length ≤ m) → (Lib.join ls sep).length ≤ (m + sep.length) * ls.length
  | [], _ => by simp [Lib.join_nil]
  | x :: r, h => by
    have h1 := h x List.mem_cons_self
    have h2 : Lib.lens r ≤ m * r.length := by
      have : ∀ ls : List (List UInt8), (∀ l ∈ ls, l.length ≤ m) → Lib.lens ls ≤ m * ls.length := by
        intro ls
        induction ls with
        | nil => intro _; simp [Lib.lens]
        | cons y ls ih =>
          intro hl
          have a1 := hl y List.mem_cons_self
          have a2 := ih fun l hl' => hl l (List.mem_cons_of_mem _ hl')
          simp only [Lib.lens, List.map_cons, List.sum_cons, List.length_cons, Nat.mul_succ] at a2 ⊢
          omega
      exact this r fun l hl => h l (List.mem_cons_of_mem _ hl)
    rw [Lib.join_cons, List.length_append, Lib.joinTail_length, List.length_cons, Nat.mul_succ, Nat.add_mul]
    omega

/-- The text of a thread; of a program. -/
def rowL (xs : List Ins) : List UInt8 := Lib.join (xs.map insL) [59]
def prgL (p : Prg) : List UInt8 := Lib.join (p.map rowL) [124]
def rowTo (xs : List Ins) (k : Nat) : List UInt8 := Lib.join ((xs.map insL).take k) [59]
def prgTo (p : Prg) (k : Nat) : List UInt8 := Lib.join ((p.map rowL).take k) [124]
theorem rowTo_all (xs : List Ins) : rowTo xs xs.length = rowL xs := by unfold rowTo rowL; rw [List.take_of_length_le (by simp)]
theorem prgTo_all (p : Prg) : prgTo p p.length = prgL p := by unfold prgTo prgL; rw [List.take_of_length_le (by simp)]
theorem rowTo_zero (xs : List Ins) : rowTo xs 0 = [] := by simp [rowTo, Lib.join_nil]
theorem prgTo_zero (p : Prg) : prgTo p 0 = [] := by simp [prgTo, Lib.join_nil]
theorem rowTo_succ {xs : List Ins} {k : Nat} {x : Ins} (h : xs[k]? = some x) : rowTo xs (k + 1) = (if 0 < k then rowTo xs k ++ [59] else []) ++ insL x :=
  join_succ _ _ _ _ (by simp [h])
theorem prgTo_succ {p : Prg} {k : Nat} {xs : List Ins} (h : p[k]? = some xs) : prgTo p (k + 1) = (if 0 < k then prgTo p k ++ [124] else []) ++ rowL xs :=
  join_succ _ _ _ _ (by simp [h])
theorem rowTo_le (xs : List Ins) (k : Nat) : (rowTo xs k).length ≤ 6 * xs.length := by
  have h := join_le 5 [59] ((xs.map insL).take k) fun l hl => by
    obtain ⟨x, _, rfl⟩ := List.mem_map.1 (List.mem_of_mem_take hl)
    exact insL_le x
  have h2 : ((xs.map insL).take k).length ≤ xs.length := by rw [List.length_take, List.length_map]; omega
  have h3 : 6 * ((xs.map insL).take k).length ≤ 6 * xs.length := Nat.mul_le_mul_left _ h2
  exact Nat.le_trans h h3
theorem prgTo_le {p : Prg} (hv : Shape p) (k : Nat) : (prgTo p k).length ≤ 129 := by
  have h := join_le 42 [124] ((p.map rowL).take k) fun l hl => by
    obtain ⟨xs, hx, rfl⟩ := List.mem_map.1 (List.mem_of_mem_take hl)
    obtain ⟨i, hi, rfl⟩ := List.mem_iff_getElem.1 hx
    have := hv.row i _ (List.getElem?_eq_getElem hi)
    have := rowTo_le p[i] p[i].length
    rw [rowTo_all] at this
    omega
  have h2 : ((p.map rowL).take k).length ≤ 3 := by rw [List.length_take, List.length_map]; have := hv.len; omega
  have h3 : 43 * ((p.map rowL).take k).length ≤ 43 * 3 := Nat.mul_le_mul_left _ h2
  exact Nat.le_trans h h3

set_option maxHeartbeats 1600000 in
theorem l1Program_c (w : World) (a : Option Addr) (cap : Nat) (p : Prg) (h : RdP w a p) (hs : Shape p) :
    Calls Try.prog 85 #[.slice a p.length cap] w fun e w' => e = .returned (.string (ba (prgL p))) ∧ Below w.heap.size w w' := by
  have hpl := hs.len
  have HA := hid (prgTo_all p)
  have HPS := hid (fun k xs (hx : p[k]? = some xs) => prgTo_succ hx)
  have HPL := hid (fun k => prgTo_le hs k)
  have HR7 := hid hs.row
  have HIV := hid hs.ins
  have HBA := hid ba_append
  have HBS := hid ba_size
  have HH := hid h
  have H0 := hid (prgTo_zero p)
  obtain ⟨n, hn⟩ : ∃ n, n = p.length := ⟨_, rfl⟩
  have HN := hid hn
  rw [← hn] at hpl HA ⊢
  clear hn h hs
  go_enter Try.func85, Try.ntmps85
  go_wp2
  go_loopw [3, 4] (fun s i wr => ∃ j : Nat, j ≤ n ∧ i = .int .i64 j ∧ s = .string (ba (prgTo p j)) ∧ Hid (Below w.heap.size w wr)) (fun _ i _ => n - (intOf i).toNat)
  case atStart => exact ⟨0, Nat.zero_le _, rfl, by rw [H0.out]; rfl, hid (Below.refl _ _)⟩
  case round =>
    obtain ⟨j, hj, rfl, rfl, HBel⟩ := hrel
    obtain ⟨wo, rfl⟩ : ∃ wo : World, wo = wr := ⟨_, rfl⟩
    by_cases hlt : j < n
    · obtain ⟨b, off, r, c, xs, hab, hb, hx, hc, hr⟩ := HH.out.at j (by rw [← HN.out]; exact hlt)
      subst hab
      have HR := hid hr
      have HC := hid hc
      have HLT := hid hb
      have hm7 := HR7.out j xs hx
      have HPJ := hid (HPS.out j xs hx)
      have hpl1 := HPL.out j
      have HIX := hid (HIV.out j xs hx)
      have HRA := hid (rowTo_all xs)
      have HRL := hid (fun k => rowTo_le xs k)
      have HRS := hid (fun k x (hx : xs[k]? = some x) => rowTo_succ hx)
      have HR0 := hid (rowTo_zero xs)
      obtain ⟨m, hm⟩ : ∃ m, m = xs.length := ⟨_, rfl⟩
      have HMX := hid hm
      rw [← hm] at HC hm7 HRA HRL
      obtain ⟨P, hP⟩ : ∃ P, P = prgTo p j := ⟨_, rfl⟩
      rw [← hP] at HPJ hpl1 ⊢
      have sP : (ba P).size ≤ 129 := by rw [HBS.out]; exact hpl1
      have sP1 : (ba P ++ ⟨#[124]⟩).size ≤ 130 := by rw [ByteArray.size_append]; show (ba P).size + 1 ≤ _; omega
      have HQ : ∃ Q, Hid (prgTo p (j + 1) = Q ++ rowL xs) ∧ Hid (Q.length ≤ 130) ∧ (if 0 < j then ba P ++ ⟨#[124]⟩ else ba P) = ba Q := by
        by_cases h0 : 0 < j
        · refine ⟨P ++ [124], hid (by rw [HPJ.out, if_pos h0]), hid (by simp; omega), ?_⟩
          rw [if_pos h0]
          exact HBA.out P [124]
        · have h0' : j = 0 := by omega
          have hP0 : P = [] := by rw [hP, h0']; exact prgTo_zero p
          refine ⟨[], hid (by rw [HPJ.out, if_neg h0]), hid (by simp), ?_⟩
          rw [if_neg h0, hP0]
      obtain ⟨Q, HQ1, HQ2, hQ3⟩ := HQ
      have HQ3 := hid hQ3
      clear hx hc hr hb hm hP hQ3
      by_cases h0 : 0 < j
      all_goals
        have HQ4 := hid HQ3.out
        first
          | (rw [if_pos h0] at HQ4; have h0' : decide (0 < j) = true := by rw [decide_eq_true_eq]; exact h0)
          | (rw [if_neg h0] at HQ4; have h0' : decide (0 < j) = false := by rw [decide_eq_false_iff_not]; exact h0)
        clear h0
        go_wp2_with fail
        rw [HQ4.out]
        go_loopw [3, 5] (fun s i wr => ∃ t : Nat, t ≤ m ∧ i = .int .i64 t ∧ s = .string (ba (Q ++ rowTo xs t)) ∧ Hid (Below w.heap.size w wr)) (fun _ i _ => m - (intOf i).toNat)
        case atStart => exact ⟨0, Nat.zero_le _, rfl, by rw [HR0.out, List.append_nil], HBel⟩
        case round =>
          obtain ⟨t, ht, rfl, rfl, HB2⟩ := hrel
          have hcx := (HB2.out.cell (p := ⟨b, off + j, none⟩) HLT.out).trans HC.out
          by_cases hlm : t < m
          · obtain ⟨bx, ox, x, hax, hbx, hx, hat⟩ := HR.out.ins t (by rw [← HMX.out]; exact hlm)
            subst hax
            obtain ⟨c0, c1, c2, c3⟩ := hat.below HB2.out hbx
            have HT := hid (fun w => l1Text_c w x (HIX.out t x hx))
            have HTS := hid (HRS.out t x hx)
            have hrl := HRL.out t
            have HQ5 := HQ2.out
            have HI := hid (ba_ins x)
            rw [HI.out] at HT
            have hil := insL_le x
            obtain ⟨I, hI⟩ : ∃ I, I = insL x := ⟨_, rfl⟩
            rw [← hI] at HT HTS hil
            obtain ⟨R, hR⟩ : ∃ R, R = Q ++ rowTo xs t := ⟨_, rfl⟩
            have sR : (ba R).size ≤ 200 := by rw [HBS.out, hR, List.length_append]; omega
            have sR1 : (ba R ++ ⟨#[59]⟩).size ≤ 201 := by rw [ByteArray.size_append]; show (ba R).size + 1 ≤ _; omega
            have sI : (ba I).size ≤ 5 := by rw [HBS.out]; exact hil
            have HS2 : Hid ((if 0 < t then ba R ++ ⟨#[59]⟩ else ba R) ++ ba I = ba (Q ++ rowTo xs (t + 1))) := by
              by_cases h0 : 0 < t
              · rw [if_pos h0, HTS.out, if_pos h0]
                have e1 : ba R ++ ⟨#[59]⟩ = ba (R ++ [59]) := HBA.out R [59]
                rw [e1, HBA.out, hR]
                exact hid (by simp [List.append_assoc])
              · have h00 : t = 0 := by omega
                rw [if_neg h0, HTS.out, if_neg h0, HBA.out, hR, h00, HR0.out]
                exact hid (by simp)
            rw [← hR]
            have hltm : (t : Int) < m := by omega
            clear hat hx hbx hI hrl HQ5 hR hil
            by_cases h0 : 0 < t
            all_goals
              have HS3 := hid HS2.out
              first
                | (rw [if_pos h0] at HS3; have h0' : decide (0 < t) = true := by rw [decide_eq_true_eq]; exact h0)
                | (rw [if_neg h0] at HS3; have h0' : decide (0 < t) = false := by rw [decide_eq_false_iff_not]; exact h0)
              clear h0
              go_wp2_with fail
              refine (HT.out _).mono ?_
              rintro e w3 ⟨rfl, hb3⟩
              have HB3 := hid (HB2.out.trans (hb3.mono HB2.out.size))
              clear hb3 c0 c1 c2 c3 hcx
              go_wp2_with fail
              rw [HS3.out]
              go_roundw
              case rel => exact ⟨t + 1, by omega, by go_num, rfl, HB3⟩
              case measure => simp [intOf]; omega
          · have HTM := hid (show t = m by omega)
            rw [HTM.out, HRA.out, ← HQ1.out]
            go_wp2_with fail
            go_roundw
            case rel => exact ⟨j + 1, by omega, by go_num, rfl, HB2⟩
            case measure => simp [intOf]; omega
    · have HJ := hid (show j = n by omega)
      rw [HJ.out, HA.out]
      go_wp2
      go_ret
      exact ⟨rfl, HBel.out⟩

/-- The text of a program that may be invalid. -/
def fmtPrg (p : Prg) : ByteArray := if progValid p then ba (prgL p) else ⟨#[]⟩
end Go.Proofs.Ythlmfjoiicnomaa
