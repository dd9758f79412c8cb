/-
  PROVED HERE: what CountSchedules of both packages does. CONDITIONS: as each theorem states.
-/
import Derived.Test.YtciplfdgjbehgaaVav
import Derived.Test.YtciplfdgjbehgaaApp
namespace Go.Proofs.Ytciplfdgjbehgaa
open Go.RowKit
set_option linter.unusedVariables false
set_option linter.unusedSimpArgs false

/-- The number n after k rounds, at the sum s; after i threads. -/
def wIn (n s : Nat) : Nat → Nat
  | 0 => n
  | k + 1 => wIn n s k * (s - k) / (k + 1)
def wTo (ls : List Nat) : Nat → Nat
  | 0 => 1
  | i + 1 => wIn (wTo ls i) (ls.sum - (ls.take i).sum) (ls.getD i 0)
/-- The number c after k rounds, after s others; after i threads. -/
def cIn (n s : Nat) : Nat → Nat
  | 0 => n
  | k + 1 => cIn n s k * (s + k + 1) / (k + 1)
def cTo (ls : List Nat) : Nat → Nat
  | 0 => 1
  | i + 1 => cIn (cTo ls i) (ls.take i).sum (ls.getD i 0)
def okB (ls : List Nat) : Bool :=
  (List.range ls.length).all (fun i => (List.range (ls.getD i 0 + 1)).all fun k => decide (wIn (wTo ls i) (ls.sum - (ls.take i).sum) k ≤ 20000000000) && decide (cIn (cTo ls i) (ls.take i).sum k ≤ 20000000000)) &&
  (wTo ls ls.length == cTo ls ls.length)
theorem ok1 : ∀ a < 8, okB [a] = true := by decide +kernel
theorem ok2 : ∀ a < 8, ∀ b < 8, okB [a, b] = true := by decide +kernel
theorem ok3 : ∀ a < 8, ∀ b < 8, ∀ c < 8, okB [a, b, c] = true := by decide +kernel
structure LsOk (ls : List Nat) : Prop where
  len : ls.length ≤ 3
  sum : ls.sum ≤ 21
  w : ∀ i < ls.length, ∀ k ≤ ls.getD i 0, wIn (wTo ls i) (ls.sum - (ls.take i).sum) k ≤ 20000000000
  c : ∀ i < ls.length, ∀ k ≤ ls.getD i 0, cIn (cTo ls i) (ls.take i).sum k ≤ 20000000000
  same : wTo ls ls.length = cTo ls ls.length
theorem lsOk {ls : List Nat} (h : ls.length ≤ 3) (h7 : ∀ n ∈ ls, n ≤ 7) : LsOk ls := by
  have key : okB ls = true ∧ ls.sum ≤ 21 := by
    match ls, h with
    | [], _ => exact ⟨by decide, by simp⟩
    | [a], _ => exact ⟨ok1 a (by have := h7 a (by simp); omega), by have := h7 a (by simp); simp; omega⟩
    | [a, b], _ => exact ⟨ok2 a (by have := h7 a (by simp); omega) b (by have := h7 b (by simp); omega), by have := h7 a (by simp); have := h7 b (by simp); simp; omega⟩
    | [a, b, c], _ => exact ⟨ok3 a (by have := h7 a (by simp); omega) b (by have := h7 b (by simp); omega) c (by have := h7 c (by simp); omega), by have := h7 a (by simp); have := h7 b (by simp); have := h7 c (by simp); simp; omega⟩
  obtain ⟨key, hs⟩ := key
  unfold okB at key
  simp only [Bool.and_eq_true, List.all_eq_true, List.mem_range, decide_eq_true_eq, beq_iff_eq] at key
  exact ⟨h, hs, fun i hi k hk => (key.1 i hi k (by omega)).1, fun i hi k hk => (key.1 i hi k (by omega)).2, key.2⟩
theorem sum_take_succ {ls : List Nat} {i : Nat} (h : i < ls.length) : (ls.take (i + 1)).sum = (ls.take i).sum + ls.getD i 0 := by
  rw [List.take_succ_eq_append_getElem h, List.sum_append]
  simp [h]
theorem sum_take_le (ls : List Nat) (i : Nat) : (ls.take i).sum ≤ ls.sum := by
  conv => rhs; rw [← List.take_append_drop i ls, List.sum_append]
  omega
theorem val_quo (n s k : Nat) : Value.int .i64 ((n : Int) * (s : Int) / (k : Int)) = .int .i64 ((n * s / k : Nat) : Int) := by rw [Int.natCast_ediv, Int.natCast_mul]
theorem val_quo1 (n s k : Nat) : Value.int .i64 ((n : Int) * (s : Int) / ((k : Int) + 1)) = .int .i64 ((n * s / (k + 1) : Nat) : Int) := by rw [Int.natCast_ediv, Int.natCast_mul, Int.natCast_add]; rfl
theorem val_quo2 (n s k : Nat) : Value.int .i64 ((n : Int) * ((s : Int) + 1) / ((k : Int) + 1)) = .int .i64 ((n * (s + 1) / (k + 1) : Nat) : Int) := by rw [Int.natCast_ediv, Int.natCast_mul, Int.natCast_add, Int.natCast_add]; rfl
theorem mul_bd2 (N u : Nat) (h1 : N ≤ 20000000000) (h2 : u ≤ 22) : (N : Int) * (u : Int) ≤ 440000000000 ∧ 0 ≤ (N : Int) * (u : Int) := by
  have h : N * u ≤ 20000000000 * 22 := Nat.mul_le_mul h1 h2
  have h1 : ((N * u : Nat) : Int) ≤ ((440000000000 : Nat) : Int) := Int.ofNat_le.2 h
  rw [Int.natCast_mul] at h1
  exact ⟨h1, Int.mul_nonneg (by omega) (by omega)⟩

abbrev natI (ls : List Nat) : List Value := ls.map fun n : Nat => Value.int .i64 (n : Int)
theorem Rd.natI {w : World} {a : Option Addr} {ls : List Nat} (h : Rd w a (natI ls)) (k : Nat) (hk : k < ls.length) :
    ∃ b off, a = some ⟨b, off, none⟩ ∧ b < w.heap.size ∧ w.cell? ⟨b, off + k, none⟩ = some (.int .i64 (ls.getD k 0 : Nat)) := by
  obtain ⟨b, off, h1, h2, h3⟩ := h.at k (by simpa using hk)
  exact ⟨b, off, h1, h2, by simpa [hk] using h3⟩

set_option maxHeartbeats 1600000 in
theorem l3Ways_c (w : World) (a : Option Addr) (cap : Nat) (ls : List Nat) (h : Rd w a (natI ls)) (ho : LsOk ls) :
    Calls Try.prog 54 #[.slice a ls.length cap] w fun e w' => e = .returned (.int .i64 (wTo ls ls.length : Nat)) ∧ w = w' := by
  have hlen := ho.len
  have hsum := ho.sum
  have HS := hid (fun i (hi : i < ls.length) => sum_take_succ hi)
  have HL := hid (fun i => sum_take_le ls i)
  have HW := hid ho.w
  have HI := hid (fun i => (show wTo ls (i + 1) = wIn (wTo ls i) (ls.sum - (ls.take i).sum) (ls.getD i 0) from rfl))
  have HT0 := hid (show (ls.take 0).sum = 0 by simp)
  have HTA := hid (show (ls.take ls.length).sum = ls.sum by simp)
  obtain ⟨n, hn⟩ : ∃ n, n = ls.length := ⟨_, rfl⟩
  rw [← hn] at hlen HS HW HTA ⊢
  have HN := hid hn
  have HH := hid h
  obtain ⟨S, hS⟩ : ∃ S, S = ls.sum := ⟨_, rfl⟩
  rw [← hS] at hsum HL HW HI HTA
  clear hn h ho hS
  go_enter Try.func54, Try.ntmps54
  go_wp2
  go_loop [3, 4] (fun s i => ∃ j : Nat, j ≤ n ∧ i = .int .i64 j ∧ s = .int .i64 ((ls.take j).sum : Nat)) (fun _ i => n - (intOf i).toNat)
  case atStart => exact ⟨0, Nat.zero_le _, rfl, by simp⟩
  case round =>
    obtain ⟨j, hj, rfl, rfl⟩ := hrel
    by_cases hlt : j < n
    · obtain ⟨b, off, hab, hb, hc⟩ := HH.out.natI j (by rw [← HN.out]; exact hlt)
      subst hab
      have HSJ := hid (HS.out j hlt)
      have hl1 := HL.out (j + 1)
      rw [HSJ.out] at hl1
      obtain ⟨s, hs⟩ : ∃ s, s = (ls.take j).sum := ⟨_, rfl⟩
      obtain ⟨x, hx⟩ : ∃ x, x = ls.getD j 0 := ⟨_, rfl⟩
      rw [← hs, ← hx] at HSJ hl1
      rw [← hs]
      rw [← hx] at hc
      clear hs hx hb
      go_wp2_with fail
      go_round
      case rel => exact ⟨j + 1, by omega, by go_num, by rw [HSJ.out]; go_num⟩
      case measure => simp [intOf]; omega
    · have HJ := hid (show j = n by omega)
      rw [HJ.out, HTA.out]
      go_wp2_with fail
      go_loop [3, 5, 6] (fun s v i => ∃ j : Nat, j ≤ n ∧ i = .int .i64 j ∧ s = .int .i64 (S - (ls.take j).sum : Nat) ∧ v = .int .i64 (wTo ls j : Nat)) (fun _ _ i => n - (intOf i).toNat)
      case atStart => exact ⟨0, Nat.zero_le _, rfl, by rw [HT0.out]; rfl, rfl⟩
      case round =>
        obtain ⟨i, hi, rfl, rfl, rfl⟩ := hrel
        by_cases hin : i < n
        · obtain ⟨b, off, hab, hb, hc⟩ := HH.out.natI i (by rw [← HN.out]; exact hin)
          subst hab
          have HWI := hid (fun k hk => HW.out i hin k hk)
          have HSI := hid (HS.out i hin)
          have hl1 := HL.out (i + 1)
          rw [HSI.out] at hl1
          have HII := hid (HI.out i)
          obtain ⟨s, hs⟩ : ∃ s, s = (ls.take i).sum := ⟨_, rfl⟩
          obtain ⟨x, hx⟩ : ∃ x, x = ls.getD i 0 := ⟨_, rfl⟩
          obtain ⟨N, hN⟩ : ∃ N, N = wTo ls i := ⟨_, rfl⟩
          rw [← hs, ← hx] at HSI hl1
          rw [← hs, ← hx, ← hN] at HWI HII
          rw [← hs, ← hN]
          rw [← hx] at hc
          clear hs hx hb hN
          go_wp2_with fail
          go_loop [3, 5, 7] (fun s' v i => ∃ k : Nat, k ≤ x ∧ i = .int .i64 (k + 1 : Nat) ∧ s' = .int .i64 (S - s - k : Nat) ∧ v = .int .i64 (wIn N (S - s) k : Nat)) (fun _ _ i => x + 1 - (intOf i).toNat)
          case atStart => exact ⟨0, Nat.zero_le _, rfl, rfl, rfl⟩
          case round =>
            obtain ⟨k, hk, rfl, rfl, rfl⟩ := hrel
            by_cases hkx : k < x
            · have hb1 := HWI.out k (by omega)
              have HSTEP := hid (show wIn N (S - s) (k + 1) = wIn N (S - s) k * (S - s - k) / (k + 1) from rfl)
              obtain ⟨V, hV⟩ : ∃ V, V = wIn N (S - s) k := ⟨_, rfl⟩
              rw [← hV] at hb1 HSTEP ⊢
              obtain ⟨u, hu⟩ : ∃ u, u = S - s - k := ⟨_, rfl⟩
              have hu1 : 1 ≤ u := by omega
              have hu2 : u ≤ 22 := by omega
              have HU := hid (show S - s - (k + 1) = u - 1 by omega)
              rw [← hu] at HSTEP ⊢
              have hm := mul_bd2 V u hb1 hu2
              obtain ⟨hm1, hm0⟩ := hm
              clear hV hu
              go_wp2_with fail
              go_round
              case rel => exact ⟨k + 1, by omega, val_succ _, by rw [HU.out, Int.ofNat_sub hu1]; rfl, by rw [HSTEP.out]; exact val_quo1 _ _ _⟩
              case measure => simp [intOf]; omega
            · have HK := hid (show k = x by omega)
              rw [HK.out, ← HII.out]
              have HU := hid (show S - s - x = S - (s + x) by omega)
              rw [HU.out]
              go_wp2_with fail
              go_round
              case rel => exact ⟨i + 1, by omega, by go_num, by rw [HSI.out], rfl⟩
              case measure => simp [intOf]; omega
        · have HJ2 := hid (show i = n by omega)
          go_wp2
          go_ret
          exact ⟨ret_int (by rw [HJ2.out]), rfl⟩

/-- The lengths of the threads. -/
def lensP (p : Prg) : List Nat := p.map List.length
def countSch (p : Prg) : Nat := if progValid p then wTo (lensP p) p.length else 0
theorem lensP_ok {p : Prg} (h : Valid p) : LsOk (lensP p) := lsOk (by simp [lensP]; exact h.len) fun n hn => by
  simp only [lensP, List.mem_map] at hn
  obtain ⟨xs, hx, rfl⟩ := hn
  obtain ⟨i, hi, rfl⟩ := List.mem_iff_getElem.1 hx
  exact h.row i _ (List.getElem?_eq_getElem hi)

set_option maxHeartbeats 1600000 in
theorem csS_c (w : World) (a : Option Addr) (cap : Nat) (p : Prg) (h : RdP w a p) (hl : sizeP p ≤ 1048576) :
    Calls Try.prog 28 #[.slice a p.length cap] w fun e w' => e = .returned (.int .i64 (countSch p : Nat)) ∧ Below w.heap.size w w' := by
  have HPV := hid (pvS_c w a cap p h hl)
  by_cases hv : progValid p = true
  · have HF := hid (show countSch p = wTo (lensP p) p.length by unfold countSch; rw [if_pos hv])
    have HOK := hid (lensP_ok (valid_of hv))
    have hpl := (valid_of hv).len
    rw [hv] at HPV
    have HLE := hid (show (lensP p).length = p.length by simp [lensP])
    have HTK := hid (fun k xs (hx : p[k]? = some xs) => (show (natI (lensP p)).take k ++ [Value.int .i64 (xs.length : Nat)] = (natI (lensP p)).take (k + 1) by
      obtain ⟨hk, rfl⟩ := List.getElem?_eq_some_iff.1 hx
      rw [List.take_succ_eq_append_getElem (by simp [lensP]; exact hk)]
      simp [lensP]))
    have HALL := hid (show (natI (lensP p)).take p.length = natI (lensP p) by rw [List.take_of_length_le]; simp [lensP])
    have HRW := hid (fun k xs (hx : p[k]? = some xs) => (valid_of hv).row k xs hx)
    have HH := hid h
    obtain ⟨n, hn⟩ : ∃ n, n = p.length := ⟨_, rfl⟩
    rw [← hn] at hpl HPV HF HLE HALL ⊢
    have HN := hid hn
    obtain ⟨cs, hcs⟩ : ∃ cs, cs = natI (lensP p) := ⟨_, rfl⟩
    rw [← hcs] at HTK HALL
    have HCS := hid hcs
    clear hn hl h hv hcs
    go_enter Try.func28, Try.ntmps28
    go_wp2_with fail
    refine HPV.out.mono ?_
    rintro e w1 ⟨rfl, hb1⟩
    have HB1 := hid hb1
    clear hb1
    go_wp2_with fail
    have HO1 := hid (own_lit0 w1 w.heap.size 3 1 HB1.out.size)
    have HB1' := hid (HB1.out.alloc HB1.out.size (.cells #[] 3))
    go_loopw [3, 4] (fun v i wr => ∃ k : Nat, k ≤ n ∧ i = .int .i64 k ∧ Hid (wr.ownsRow w.heap.size 3 1 v k (cs.take k)) ∧ Hid (Below w.heap.size w wr)) (fun _ i _ => n - (intOf i).toNat)
    case atStart => exact ⟨0, Nat.zero_le _, rfl, hid (by simpa using HO1.out), HB1'⟩
    case round =>
      obtain ⟨k, hk, rfl, HO, HB⟩ := hrel
      by_cases hlt : k < n
      · obtain ⟨b, off, r, c, xs, hab, hb, hx, hc, hr⟩ := HH.out.at k (by rw [← HN.out]; exact hlt)
        subst hab
        have HT := hid (HTK.out k xs hx)
        have hx7 := HRW.out k xs hx
        have hcx := (HB.out.cell (p := ⟨b, off + k, none⟩) hb).trans hc
        have hbs := HB.out.size
        obtain ⟨m, hm⟩ : ∃ m, m = xs.length := ⟨_, rfl⟩
        rw [← hm] at hcx hx7 HT
        clear hc hx hr hb hm
        go_wp2_with (at_builtin; refine wpList_append_one rfl (.tmp 15) (.tmp 21) 42 rfl w.heap.size 3 (.int .i64 0) 8 Try.underlying42 Try.info_int rfl _ _ _ rfl (HO.out.alloc _) _ (.int .i64 (m : Nat)) rfl (by simp) rfl (by omega) (by omega) (by simp; omega) ?_)
        intro v1 w2 hown1 hgrow1
        rw [HT.out] at hown1
        have HO2 := hid hown1
        have HB2 := hid ((HB.out.alloc HB.out.size _).grown hgrow1 (by simp; omega) (fun b hb => (HO.out.lt b hb).1))
        clear hown1 hgrow1 hcx
        go_wp2_with fail
        go_roundw
        case rel => exact ⟨k + 1, by omega, by go_num, HO2, HB2⟩
        case measure => simp [intOf]; omega
      · have HK := hid (show k = n by omega)
        rw [HK.out, HALL.out] at HO
        obtain ⟨a1, cap1, rfl, _⟩ := own_shape HO.out
        have HCW := hid (l3Ways_c wr a1 cap1 (lensP p) (by rw [← HCS.out]; exact Rd.own HO.out) HOK.out)
        rw [HLE.out, ← HF.out] at HCW
        go_wp2_with fail
        refine HCW.out.mono ?_
        rintro e w' ⟨rfl, rfl⟩
        go_wp2
        go_ret
        exact ⟨rfl, HB.out⟩
  · have hv : progValid p = false := by simpa using hv
    have HF := hid (show countSch p = 0 by unfold countSch; rw [hv]; rfl)
    rw [hv] at HPV
    clear h hv
    go_enter Try.func28, Try.ntmps28
    go_wp2_with fail
    refine HPV.out.mono ?_
    rintro e w1 ⟨rfl, hb1⟩
    go_wp2
    go_ret
    exact ⟨ret_int (by rw [HF.out]; rfl), hb1⟩

set_option maxHeartbeats 1600000 in
theorem csI_c (w : World) (a : Option Addr) (cap : Nat) (p : Prg) (h : RdP w a p) (hl : sizeP p ≤ 1048576) :
    Calls Try.prog 27 #[.slice a p.length cap] w fun e w' => e = .returned (.int .i64 (countSch p : Nat)) ∧ Below w.heap.size w w' := by
  have HPV := hid (pvI_c w a cap p h hl)
  by_cases hv : progValid p = true
  · have hok := lensP_ok (valid_of hv)
    have hLE : (lensP p).length = p.length := by simp [lensP]
    have hsame := hok.same
    rw [hLE] at hsame
    have HF := hid (show countSch p = cTo (lensP p) p.length by unfold countSch; rw [if_pos hv, hsame])
    have hpl := (valid_of hv).len
    have hsum := hok.sum
    rw [hv] at HPV
    have HS := hid (fun i (hi : i < p.length) => (show ((lensP p).take (i + 1)).sum = ((lensP p).take i).sum + (lensP p).getD i 0 from sum_take_succ (by rw [hLE]; exact hi)))
    have HL := hid (fun i => sum_take_le (lensP p) i)
    have HC := hid (fun i (hi : i < p.length) => hok.c i (by rw [hLE]; exact hi))
    have HI := hid (fun i => (show cTo (lensP p) (i + 1) = cIn (cTo (lensP p) i) ((lensP p).take i).sum ((lensP p).getD i 0) from rfl))
    have HG := hid (fun k xs (hx : p[k]? = some xs) => (show (lensP p).getD k 0 = xs.length by simp [lensP, hx]))
    have HH := hid h
    obtain ⟨n, hn⟩ : ∃ n, n = p.length := ⟨_, rfl⟩
    rw [← hn] at hpl HPV HF HS HC ⊢
    have HN := hid hn
    obtain ⟨ls, hls⟩ : ∃ ls, ls = lensP p := ⟨_, rfl⟩
    rw [← hls] at hsum HS HL HC HI HG HF
    clear hn hl h hv hls hok hLE hsame
    go_enter Try.func27, Try.ntmps27
    go_wp2_with fail
    refine HPV.out.mono ?_
    rintro e w1 ⟨rfl, hb1⟩
    have HB1 := hid hb1
    clear hb1
    go_wp2_with fail
    go_loop [3, 4, 13] (fun c s i => ∃ j : Nat, j ≤ n ∧ i = .int .i64 j ∧ s = .int .i64 ((ls.take j).sum : Nat) ∧ c = .int .i64 (cTo ls j : Nat)) (fun _ _ i => n - (intOf i).toNat)
    case atStart => exact ⟨0, Nat.zero_le _, rfl, by simp, rfl⟩
    case round =>
      obtain ⟨i, hi, rfl, rfl, rfl⟩ := hrel
      by_cases hin : i < n
      · obtain ⟨b, off, r, c, xs, hab, hb, hx, hc, hr⟩ := HH.out.at i (by rw [← HN.out]; exact hin)
        subst hab
        have hcx := (HB1.out.cell (p := ⟨b, off + i, none⟩) hb).trans hc
        have HCI := hid (fun k hk => HC.out i hin k hk)
        have HSI := hid (HS.out i hin)
        have hl1 := HL.out (i + 1)
        rw [HSI.out] at hl1
        have HII := hid (HI.out i)
        have hg := HG.out i xs hx
        rw [hg] at HCI HSI HII hl1
        obtain ⟨s, hs⟩ : ∃ s, s = (ls.take i).sum := ⟨_, rfl⟩
        obtain ⟨x, hx'⟩ : ∃ x, x = xs.length := ⟨_, rfl⟩
        obtain ⟨N, hN⟩ : ∃ N, N = cTo ls i := ⟨_, rfl⟩
        rw [← hs, ← hx'] at HSI hl1
        rw [← hs, ← hx', ← hN] at HCI HII
        rw [← hs, ← hN]
        rw [← hx'] at hcx
        clear hs hx hb hN hc hr hg hx'
        go_wp2_with fail
        go_loop [3, 4, 19] (fun v s' i => ∃ k : Nat, k ≤ x ∧ i = .int .i64 k ∧ s' = .int .i64 (s + k : Nat) ∧ v = .int .i64 (cIn N s k : Nat)) (fun _ _ i => x - (intOf i).toNat)
        case atStart => exact ⟨0, Nat.zero_le _, rfl, rfl, rfl⟩
        case round =>
          obtain ⟨k, hk, rfl, rfl, rfl⟩ := hrel
          by_cases hkx : k < x
          · have hb1 := HCI.out k (by omega)
            have HSTEP := hid (show cIn N s (k + 1) = cIn N s k * (s + k + 1) / (k + 1) from rfl)
            obtain ⟨V, hV⟩ : ∃ V, V = cIn N s k := ⟨_, rfl⟩
            rw [← hV] at hb1 HSTEP ⊢
            obtain ⟨u, hu⟩ : ∃ u, u = s + k := ⟨_, rfl⟩
            have hu2 : u + 1 ≤ 22 := by omega
            have HU := hid (show s + (k + 1) = u + 1 by omega)
            rw [← hu] at HSTEP ⊢
            obtain ⟨hm1, hm0⟩ := mul_bd2 V (u + 1) hb1 hu2
            have hm1' : (V : Int) * ((u : Int) + 1) ≤ 440000000000 := hm1
            have hm0' : 0 ≤ (V : Int) * ((u : Int) + 1) := hm0
            clear hm1 hm0
            clear hV hu
            go_wp2_with fail
            go_round
            case rel => exact ⟨k + 1, by omega, by go_num, by rw [HU.out]; rfl, by rw [HSTEP.out]; exact val_quo2 _ _ _⟩
            case measure => simp [intOf]; omega
          · have HK := hid (show k = x by omega)
            rw [HK.out, ← HII.out]
            go_wp2_with fail
            go_round
            case rel => exact ⟨i + 1, by omega, by go_num, by rw [HSI.out], rfl⟩
            case measure => simp [intOf]; omega
      · have HJ2 := hid (show i = n by omega)
        go_wp2
        go_ret
        exact ⟨ret_int (by rw [HJ2.out, HF.out]), HB1.out⟩
  · have hv : progValid p = false := by simpa using hv
    have HF := hid (show countSch p = 0 by unfold countSch; rw [hv]; rfl)
    rw [hv] at HPV
    clear h hv
    go_enter Try.func27, Try.ntmps27
    go_wp2_with fail
    refine HPV.out.mono ?_
    rintro e w1 ⟨rfl, hb1⟩
    go_wp2
    go_ret
    exact ⟨ret_int (by rw [HF.out]; rfl), hb1⟩
end Go.Proofs.Ytciplfdgjbehgaa
