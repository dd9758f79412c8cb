/-
  PROVED HERE: what AcyclicRel of both packages does. CONDITIONS: as each theorem states.
-/
import Derived.Test.YtdppidhnlbfpmaaRelI
namespace Go.Proofs.Ytdppidhnlbfpmaa
open Go.RowKit
set_option linter.unusedVariables false
set_option linter.unusedSimpArgs false

def looseUpto (k : Nat) (ns : List Nat) : Bool := (List.range k).all fun i => !bit ns i i
/-- No element is related to itself. -/
def looseN (ns : List Nat) : Bool := looseUpto ns.length ns
theorem loose_succ (k : Nat) (ns : List Nat) : looseUpto (k + 1) ns = (looseUpto k ns && !bit ns k k) := by simp [looseUpto, List.range_succ]
theorem loose_hit {k n : Nat} {ns : List Nat} (hk : k < n) (h : bit ns k k = true) : looseUpto n ns = false := by
  rw [Bool.eq_false_iff]
  intro e
  simp only [looseUpto, List.all_eq_true, List.mem_range] at e
  have := e k hk
  rw [h] at this
  cases this
def acyclicN (ns : List Nat) : Bool := looseN (closureN ns)
def acyclicF (xs : List Int) : Bool := relValid xs && acyclicN (xs.map Int.toNat)
theorem acyclicF_no {xs : List Int} (h : relValid xs = false) : acyclicF xs = false := by simp [acyclicF, h]
theorem acyclicF_yes {us : List Nat} (h : Ok us) : acyclicF (castI us) = acyclicN us := by simp [acyclicF, valid_castI h, toNat_castI]

theorem l2Loose_c (w : World) (a : Option Addr) (cap : Nat) (ns : List Nat) (h : Rd w a (natV ns)) (ho : Ok ns) :
    Calls Try.prog 82 #[.slice a ns.length cap] w fun e w' => e = .returned (.bool (looseN ns)) ∧ w = w' := by
  have C := hid (fun (i : Nat) hi => l2Has_c w a cap ns i i h ho hi (by have := ho.len; omega))
  have hlen := ho.len
  have HE := hid (show looseN ns = looseUpto ns.length ns from rfl)
  obtain ⟨n, hn⟩ : ∃ n, n = ns.length := ⟨_, rfl⟩
  rw [← hn] at C hlen HE ⊢
  clear hn h ho
  go_enter Try.func82, Try.ntmps82
  go_wp2
  go_loop [3] (fun i => ∃ k : Nat, k ≤ n ∧ i = .int .i64 k ∧ looseUpto k ns = true) (fun i => n - (intOf i).toNat)
  case atStart => exact ⟨0, Nat.zero_le _, rfl, rfl⟩
  case round =>
    obtain ⟨k, hk, rfl, hl⟩ := hrel
    have HL := hid hl
    clear hl
    by_cases hlt : k < n
    · have Ck := hid (C.out k hlt)
      by_cases hb : bit ns k k = true
      · rw [show (ns.getD k 0).testBit k = true from hb] at Ck
        go_wp2_with fail
        refine Ck.out.mono ?_
        rintro e w1 ⟨rfl, rfl⟩
        go_wp2
        go_ret
        exact ⟨ret_bool (by rw [HE.out, loose_hit hlt hb]), rfl⟩
      · have hb : bit ns k k = false := by simpa using hb
        rw [show (ns.getD k 0).testBit k = false from hb] at Ck
        go_wp2_with fail
        refine Ck.out.mono ?_
        rintro e w1 ⟨rfl, rfl⟩
        go_wp2
        go_round
        case rel => exact ⟨k + 1, by omega, by go_num, by rw [loose_succ, HL.out, hb]; rfl⟩
        case measure => simp [intOf]; omega
    · go_wp2
      go_ret
      exact ⟨ret_bool (by rw [HE.out, ← HL.out, show k = n by omega]), rfl⟩

theorem irrefl_c (w : World) (a : Option Addr) (cap : Nat) (ns : List Nat) (h : Rd w a (natV ns)) (ho : Ok ns) :
    Calls Try.prog 68 #[.slice a ns.length cap] w fun e w' => e = .returned (.bool (looseN ns)) ∧ w = w' := by
  have C := hid (fun (i : Nat) hi => related_c w a cap ns i i h ho hi (by have := ho.len; omega))
  have hlen := ho.len
  have HE := hid (show looseN ns = looseUpto ns.length ns from rfl)
  obtain ⟨n, hn⟩ : ∃ n, n = ns.length := ⟨_, rfl⟩
  rw [← hn] at C hlen HE ⊢
  clear hn h ho
  go_enter Try.func68, Try.ntmps68
  go_wp2
  go_loop [6] (fun i => ∃ k : Nat, k ≤ n ∧ i = .int .i64 k ∧ looseUpto k ns = true) (fun i => n - (intOf i).toNat)
  case atStart => exact ⟨0, Nat.zero_le _, rfl, rfl⟩
  case round =>
    obtain ⟨k, hk, rfl, hl⟩ := hrel
    have HL := hid hl
    clear hl
    by_cases hlt : k < n
    · have Ck := hid (C.out k hlt)
      by_cases hb : bit ns k k = true
      · rw [show (ns.getD k 0).testBit k = true from hb] at Ck
        go_wp2_with fail
        refine Ck.out.mono ?_
        rintro e w1 ⟨rfl, rfl⟩
        go_wp2
        go_ret
        exact ⟨ret_bool (by rw [HE.out, loose_hit hlt hb]), rfl⟩
      · have hb : bit ns k k = false := by simpa using hb
        rw [show (ns.getD k 0).testBit k = false from hb] at Ck
        go_wp2_with fail
        refine Ck.out.mono ?_
        rintro e w1 ⟨rfl, rfl⟩
        go_wp2
        go_round
        case rel => exact ⟨k + 1, by omega, by go_num, by rw [loose_succ, HL.out, hb]; rfl⟩
        case measure => simp [intOf]; omega
    · go_wp2
      go_ret
      exact ⟨ret_bool (by rw [HE.out, ← HL.out, show k = n by omega]), rfl⟩

theorem l2Acyclic_c (w : World) (a : Option Addr) (cap : Nat) (ns : List Nat) (h : Rd w a (natV ns)) (ho : Ok ns) :
    Calls Try.prog 69 #[.slice a ns.length cap] w fun e w' => e = .returned (.bool (acyclicN ns)) ∧ Below w.heap.size w w' := by
  have C1 := hid (l2Closure_c w a cap ns h ho)
  have C2 := hid (fun w a cap h => l2Loose_c w a cap (closureN ns) h (ok_closure ho))
  go_enter Try.func69, Try.ntmps69
  go_wp2_with fail
  refine C1.out.mono ?_
  rintro e w1 ⟨a1, c1, rfl, hown1, hb1⟩
  go_wp2_with fail
  refine (C2.out _ _ _ (Rd.own hown1)).mono ?_
  rintro e w2 ⟨rfl, rfl⟩
  go_wp2
  go_ret
  exact ⟨rfl, hb1⟩

theorem specAcyclic_c (w : World) (a : Option Addr) (cap : Nat) (xs : List Int) (h : Rd w a (ints xs)) (hl : xs.length ≤ 1048576) :
    Calls Try.prog 32 #[.slice a xs.length cap] w fun e w' => e = .returned (.bool (acyclicF xs)) ∧ Below w.heap.size w w' := by
  have C1 := hid (relValidS_c w a cap xs h hl)
  by_cases hv : relValid xs = true
  · rw [hv] at C1
    obtain ⟨us, rfl, ho⟩ := ok_of_valid hv
    rw [acyclicF_yes ho]
    rw [ints_castI] at h
    rw [length_castI] at C1 ⊢
    have C2 := hid (fun w h => l2Acyclic_c w a cap us h ho)
    have H1 := hid h
    clear h hv hl ho
    go_enter Try.func32, Try.ntmps32
    go_wp2_with fail
    refine C1.out.mono ?_
    rintro e w1 ⟨rfl, hb1⟩
    go_wp2_with fail
    refine (C2.out _ (H1.out.below hb1)).mono ?_
    rintro e w2 ⟨rfl, hb2⟩
    go_wp2
    go_ret
    exact ⟨rfl, hb1.trans (hb2.mono hb1.size)⟩
  · have hv : relValid xs = false := by simpa using hv
    rw [hv] at C1
    rw [acyclicF_no hv]
    clear hv
    go_enter Try.func32, Try.ntmps32
    go_wp2_with fail
    refine C1.out.mono ?_
    rintro e w1 ⟨rfl, hb1⟩
    go_wp2
    go_ret
    exact ⟨rfl, hb1⟩

theorem implAcyclic_c (w : World) (a : Option Addr) (cap : Nat) (xs : List Int) (h : Rd w a (ints xs)) (hl : xs.length ≤ 1048576) :
    Calls Try.prog 31 #[.slice a xs.length cap] w fun e w' => e = .returned (.bool (acyclicF xs)) ∧ Below w.heap.size w w' := by
  have C1 := hid (relValidI_c w a cap xs h hl)
  by_cases hv : relValid xs = true
  · rw [hv] at C1
    obtain ⟨us, rfl, ho⟩ := ok_of_valid hv
    rw [acyclicF_yes ho]
    rw [ints_castI] at h
    rw [length_castI] at C1 ⊢
    have C2 := hid (fun w h => implClosureYes_c w a cap us h ho)
    have C3 := hid (fun w a cap h => irrefl_c w a cap (closureN us) h (ok_closure ho))
    have H1 := hid h
    clear h hv hl ho
    go_enter Try.func31, Try.ntmps31
    go_wp2_with fail
    refine C1.out.mono ?_
    rintro e w1 ⟨rfl, hb1⟩
    go_wp2_with fail
    refine (C2.out _ (H1.out.below hb1)).mono ?_
    rintro e w2 ⟨a2, c2, rfl, hown2, hb2⟩
    go_wp2_with fail
    refine (C3.out _ _ _ (Rd.own hown2)).mono ?_
    rintro e w3 ⟨rfl, rfl⟩
    go_wp2
    go_ret
    exact ⟨rfl, hb1.trans (hb2.mono hb1.size)⟩
  · have hv : relValid xs = false := by simpa using hv
    rw [hv] at C1
    rw [acyclicF_no hv]
    clear hv
    go_enter Try.func31, Try.ntmps31
    go_wp2_with fail
    refine C1.out.mono ?_
    rintro e w1 ⟨rfl, hb1⟩
    go_wp2
    go_ret
    exact ⟨rfl, hb1⟩
end Go.Proofs.Ytdppidhnlbfpmaa
