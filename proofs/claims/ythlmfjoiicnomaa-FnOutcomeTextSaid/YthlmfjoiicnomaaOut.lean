/-
  PROVED HERE: what OutcomeValid of both packages does. CONDITIONS: as each theorem states.
-/
import Derived.Test.YthlmfjoiicnomaaVav
import Derived.Test.YthlmfjoiicnomaaFun
namespace Go.Proofs.Ythlmfjoiicnomaa
open Go.RowKit
set_option linter.unusedVariables false
set_option linter.unusedSimpArgs false

def outB (x : Int) : Bool := in01 x 3
def outValid (p : Prg) (o : List Int) : Bool := progValid p && decide (o.length = 3 * p.length + 3) && o.all outB
theorem out_no_prog {p : Prg} {o : List Int} (h : progValid p = false) : outValid p o = false := by unfold outValid; rw [h]; rfl
theorem out_no_len {p : Prg} {o : List Int} (h : o.length ≠ 3 * p.length + 3) : outValid p o = false := by
  unfold outValid
  have : decide (o.length = 3 * p.length + 3) = false := by rw [decide_eq_false_iff_not]; exact h
  rw [this]; simp
theorem out_rest {p : Prg} {o : List Int} (h : progValid p = true) (hl : o.length = 3 * p.length + 3) : outValid p o = o.all outB := by
  unfold outValid
  have : decide (o.length = 3 * p.length + 3) = true := by rw [decide_eq_true_eq]; exact hl
  rw [h, this]; rfl
theorem out_bad {o : List Int} {k : Nat} {x : Int} (hk : o[k]? = some x) (hb : outB x = false) : o.all outB = false := by
  rw [List.all_eq_false]
  exact ⟨x, List.mem_of_getElem? hk, by simp [hb]⟩
theorem out_good {o : List Int} (h : ∀ (k : Nat) x, o[k]? = some x → outB x = true) : o.all outB = true := by
  rw [List.all_eq_true]
  intro x hx
  obtain ⟨k, hk, rfl⟩ := List.mem_iff_getElem.1 hx
  exact h k _ (List.getElem?_eq_getElem hk)

theorem l3Size_c (w : World) (a : Option Addr) (cap n : Nat) (hn : n ≤ 1048576) : Calls Try.prog 78 #[.slice a n cap] w fun e w' => e = .returned (.int .i64 (3 * n + 3 : Nat)) ∧ w = w' := by
  go_enter Try.func78, Try.ntmps78
  go_wp2
  go_ret
  exact ⟨ret_int (by omega), rfl⟩

set_option maxHeartbeats 800000 in
theorem ovS_c (w : World) (a : Option Addr) (cap : Nat) (p : Prg) (a' : Option Addr) (cap' : Nat) (o : List Int) (h : RdP w a p) (h' : Rd w a' (ints o)) (hl : sizeP p ≤ 1048576) (hl' : o.length ≤ 1048576) :
    Calls Try.prog 53 #[.slice a p.length cap, .slice a' o.length cap'] w fun e w' => e = .returned (.bool (outValid p o)) ∧ Below w.heap.size w w' := by
  have HV := hid (pvS_c w a cap p h hl)
  have hpl := Nat.le_trans (sizeP_len p) hl
  have HSZ := hid (fun w => l3Size_c w a cap p.length hpl)
  by_cases hv : progValid p = true
  · by_cases hlen : o.length = 3 * p.length + 3
    · have HF := hid (out_rest hv hlen)
      have HC := hid (fun w x => l1In_c w x 3)
      have HBAD := hid (fun k x (hk : o[k]? = some x) hb => out_bad hk hb)
      have HGOOD := hid (out_good (o := o))
      have HOB := hid (fun x => (show outB x = in01 x 3 from rfl))
      have HH := hid h'
      rw [hv] at HV
      obtain ⟨n, hn⟩ : ∃ n, n = o.length := ⟨_, rfl⟩
      obtain ⟨m, hm⟩ : ∃ m, m = p.length := ⟨_, rfl⟩
      have HN := hid hn
      rw [← hn] at hlen hl' ⊢
      rw [← hm] at hlen hpl HV HSZ ⊢
      have HLE := hid hlen
      have hne : ((n : Int) != 3 * (m : Int) + 3) = false := by rw [bne_eq_false_iff_eq]; omega
      clear hv hlen hn hm h h' hl
      go_enter Try.func53, Try.ntmps53
      go_wp2_with fail
      refine HV.out.mono ?_
      rintro e w1 ⟨rfl, hb1⟩
      have HB1 := hid hb1
      clear hb1
      go_wp2_with fail
      refine (HSZ.out _).mono ?_
      rintro e w2 ⟨rfl, rfl⟩
      go_wp2_with fail
      go_loop [5] (fun i => ∃ k : Nat, k ≤ n ∧ i = .int .i64 k ∧ Hid (∀ (j : Nat) x, j < k → o[j]? = some x → outB x = true)) (fun i => n - (intOf i).toNat)
      case atStart => exact ⟨0, Nat.zero_le _, rfl, hid (fun j x hj => by omega)⟩
      case round =>
        obtain ⟨k, hk, rfl, HOK⟩ := hrel
        by_cases hlt : k < n
        · obtain ⟨b, off, hab, hb, hc⟩ := HH.out.int k (by rw [← HN.out]; exact hlt)
          subst hab
          have hx : o[k]? = some (o[k]'(by rw [← HN.out]; exact hlt)) := List.getElem?_eq_getElem _
          have hcx := (HB1.out.cell (p := ⟨b, off + k, none⟩) hb).trans hc
          obtain ⟨x, ex⟩ : ∃ x, x = (o[k]'(by rw [← HN.out]; exact hlt)) := ⟨_, rfl⟩
          rw [← ex] at hx hcx
          have HX := hid hx
          have HCX := hid (fun w => HC.out w x)
          rw [← HOB.out] at HCX
          clear hc hx hb ex
          by_cases hob : outB x = true
          · have HO := hid hob
            rw [hob] at HCX
            clear hob
            go_wp2_with fail
            refine (HCX.out _).mono ?_
            rintro e w3 ⟨rfl, rfl⟩
            go_wp2_with fail
            go_round
            case rel => exact ⟨k + 1, by omega, by go_num, hid (fun j y hj hy => by
              by_cases e : j = k
              · subst e; rw [HX.out] at hy; cases hy; exact HO.out
              · exact HOK.out j y (by omega) hy)⟩
            case measure => simp [intOf]; omega
          · have hob : outB x = false := by simpa using hob
            have HO := hid (HBAD.out k x HX.out hob)
            rw [hob] at HCX
            clear hob
            go_wp2_with fail
            refine (HCX.out _).mono ?_
            rintro e w3 ⟨rfl, rfl⟩
            go_wp2_with fail
            go_ret
            exact ⟨ret_bool (by rw [HF.out, HO.out]), HB1.out⟩
        · have HG := hid (HGOOD.out fun j x hx => HOK.out j x (by have := (List.getElem?_eq_some_iff.1 hx).1; have := HN.out; omega) hx)
          go_wp2
          go_ret
          exact ⟨ret_bool (by rw [HF.out, HG.out]), HB1.out⟩
    · have HF := hid (out_no_len hlen)
      rw [hv] at HV
      have hne : ((o.length : Int) != 3 * (p.length : Int) + 3) = true := by rw [bne_iff_ne]; omega
      clear hv hlen h h' hl
      go_enter Try.func53, Try.ntmps53
      go_wp2_with fail
      refine HV.out.mono ?_
      rintro e w1 ⟨rfl, hb1⟩
      have HB1 := hid hb1
      clear hb1
      go_wp2_with fail
      refine (HSZ.out _).mono ?_
      rintro e w2 ⟨rfl, rfl⟩
      go_wp2
      go_ret
      exact ⟨ret_bool HF.out.symm, HB1.out⟩
  · have hv : progValid p = false := by simpa using hv
    have HF := hid (out_no_prog (o := o) hv)
    rw [hv] at HV
    clear hv h h' hl
    go_enter Try.func53, Try.ntmps53
    go_wp2_with fail
    refine HV.out.mono ?_
    rintro e w1 ⟨rfl, hb1⟩
    have HB1 := hid hb1
    clear hb1
    go_wp2
    go_ret
    exact ⟨ret_bool HF.out.symm, HB1.out⟩

theorem ov1_c (w : World) (x : Int) : Calls Try.prog 76 #[.int .i64 x] w fun e w' => e = .returned (.bool (!outB x)) ∧ w = w' := by
  have HC := hid (fun w => within_c w x 0 3)
  have HO := hid (show outB x = (decide (0 ≤ x) && decide (x ≤ 3)) from rfl)
  rw [← HO.out] at HC
  clear HO
  obtain ⟨b, hb⟩ : ∃ b, b = outB x := ⟨_, rfl⟩
  rw [← hb] at HC ⊢
  clear hb
  go_enter Try.func76, Try.ntmps76
  go_wp2_with fail
  refine (HC.out _).mono ?_
  rintro e w1 ⟨rfl, rfl⟩
  go_wp2
  go_ret
  exact ⟨rfl, rfl⟩
theorem callOv : ∀ args (w : World), (callFunc 76 args).run Try.prog w = .ok (.enter 76 args) w :=
  fun args w => run_callFunc Try.func76 (by kernel_rfl) rfl args w
theorem any_not_all (o : List Int) : (!o.any fun x => !outB x) = o.all outB := by
  rw [List.all_eq_not_any_not]

set_option maxHeartbeats 800000 in
theorem ovI_c (w : World) (a : Option Addr) (cap : Nat) (p : Prg) (a' : Option Addr) (cap' : Nat) (o : List Int) (h : RdP w a p) (h' : Rd w a' (ints o)) (hl : sizeP p ≤ 1048576) (hl' : o.length ≤ 1048576) :
    Calls Try.prog 50 #[.slice a p.length cap, .slice a' o.length cap'] w fun e w' => e = .returned (.bool (outValid p o)) ∧ Below w.heap.size w w' := by
  have HV := hid (pvI_c w a cap p h hl)
  have hpl := Nat.le_trans (sizeP_len p) hl
  have HC := hid (fun w' (hb : Below w.heap.size w w') => containsFunc_c w' 76 (fun x => !outB x) a' cap' o (h'.below hb) hl' callOv (fun x => ov1_c w' x))
  by_cases hv : progValid p = true
  · rw [hv] at HV
    by_cases hlen : o.length = 3 * p.length + 3
    · have HF := hid (out_rest hv hlen)
      rw [← any_not_all] at HF
      obtain ⟨r, hr⟩ : ∃ r, r = o.any (fun x => !outB x) := ⟨_, rfl⟩
      rw [← hr] at HF HC
      have hne : ((o.length : Int) == 3 * (p.length : Int) + 2 + 1) = true := by rw [beq_iff_eq]; omega
      clear hv hlen h h' hl hr
      go_enter Try.func50, Try.ntmps50
      go_wp2_with fail
      refine HV.out.mono ?_
      rintro e w1 ⟨rfl, hb1⟩
      have HB1 := hid hb1
      clear hb1
      go_wp2_with fail
      refine (HC.out _ HB1.out).mono ?_
      rintro e w2 ⟨rfl, rfl⟩
      go_wp2
      go_ret
      exact ⟨ret_bool HF.out.symm, HB1.out⟩
    · have HF := hid (out_no_len hlen)
      have hne : ((o.length : Int) == 3 * (p.length : Int) + 2 + 1) = false := by rw [beq_eq_false_iff_ne]; omega
      clear hv hlen h h' hl
      go_enter Try.func50, Try.ntmps50
      go_wp2_with fail
      refine HV.out.mono ?_
      rintro e w1 ⟨rfl, hb1⟩
      have HB1 := hid hb1
      clear hb1
      go_wp2
      go_ret
      exact ⟨ret_bool HF.out.symm, HB1.out⟩
  · have hv : progValid p = false := by simpa using hv
    have HF := hid (out_no_prog (o := o) hv)
    rw [hv] at HV
    clear hv h h' hl
    go_enter Try.func50, Try.ntmps50
    go_wp2_with fail
    refine HV.out.mono ?_
    rintro e w1 ⟨rfl, hb1⟩
    have HB1 := hid hb1
    clear hb1
    go_wp2
    go_ret
    exact ⟨ret_bool HF.out.symm, HB1.out⟩
end Go.Proofs.Ythlmfjoiicnomaa
