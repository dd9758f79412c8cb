/-
  PROVED HERE: what impl.cycleFrom does. CONDITIONS: as each theorem states.
-/
import Derived.Test.YtdppidhnlbfpmaaRelL
namespace Go.Proofs.Ytdppidhnlbfpmaa
open Go.RowKit
set_option linter.unusedVariables false
set_option linter.unusedSimpArgs false

def lenOf : Value → Nat | .slice _ n _ => n | _ => 0

set_option maxHeartbeats 3200000 in
theorem cycleFrom_c (w : World) (a : Option Addr) (cap : Nat) (ns : List Nat) (start : Nat) (h : Rd w a (natV ns)) (ho : Ok ns) (hs : start < ns.length) :
    Calls Try.prog 77 #[.slice a ns.length cap, .int .i64 start] w fun e w' => ∃ a₁ cap₁, e = .returned (.slice a₁ (pathN ns start).length cap₁) ∧ (a₁ = none ↔ pathN ns start = []) ∧ w'.ownsRow w.heap.size 3 1 (.slice a₁ (pathN ns start).length cap₁) (pathN ns start).length (natV (pathN ns start)) ∧ Below w.heap.size w w' := by
  have C := hid (fun (w : World) (i k : Nat) h hi hk => related_c w a cap ns i k h ho hi hk)
  have hlen := ho.len
  obtain ⟨n, hn⟩ : ∃ n, n = ns.length := ⟨_, rfl⟩
  have HGO := hid (show pathN ns start = bfsGo ns start (20 - 0) 0 [[start]] 0 from rfl)
  obtain ⟨res, hres⟩ : ∃ res, res = pathN ns start := ⟨_, rfl⟩
  rw [← hres] at HGO ⊢
  rw [← hn] at C hlen hs ⊢
  have HR := hid h
  have HN := hid hn
  have HS0 := hid (bfs_start hs)
  clear h ho hn hres
  go_enter Try.func77, Try.ntmps77
  go_wp2
  go_loopw [5, 6] (fun s v wr => ∃ (k seen : Nat) (ps : List (List Nat)) (vs : List Value), k ≤ ps.length ∧ s = .int .i64 seen ∧ Mid wr w.heap.size 23 v (ps.length - k) (vs.drop k) ∧ Cells wr w.heap.size vs ps ∧ Bfs n ps seen ∧ bfsGo ns start (20 - k) k ps seen = res ∧ Below w.heap.size w wr) (fun s v _ => 2 * (17 - popUpto n (intOf s).toNat) + lenOf v)
  case atStart =>
    refine ⟨0, 0, [[start]], [.slice (some ⟨w.heap.size, 0, none⟩) 1 1], by simp, rfl, ?_, ?_, HS0.out, HGO.out.symm, ?_⟩
    · exact Mid.own (by simpa using World.ownsRow_lit (e := 23) (size := 1) (base := w.heap.size) (w.alloc (.cells #[.int .i64 start] 3)) #[.slice (some ⟨w.heap.size, 0, none⟩) 1 1] 1 (by simp) (by decide) rfl)
    · refine Cells.below (w := w.alloc (.cells #[.int .i64 start] 3)) ?_ ((Below.refl _ _).alloc (Nat.le_refl _) _)
      refine ⟨rfl, fun j u p hu hp => ?_⟩
      match j, hu, hp with
      | 0, hu, hp =>
        simp at hu hp
        subst hu hp
        exact ⟨_, _, rfl, World.ownsRow_lit (e := 3) (size := 1) (base := w.heap.size) w #[.int .i64 start] 1 (Nat.le_refl _) (by decide) rfl⟩
    · exact ((Below.refl _ _).alloc (Nat.le_refl _) _).alloc (by simp) _
  case round =>
    obtain ⟨k, seen, ps, vs, hk, rfl, hmid, hcells, hbfs, hgo, hbel⟩ := hrel
    have hL17 := hbfs.le hlen
    obtain ⟨L, hL⟩ : ∃ L, L = ps.length := ⟨_, rfl⟩
    rw [← hL] at hmid hk hL17
    have HPOP := hid (show L = popUpto n seen + 1 by rw [hL]; exact hbfs.len)
    have HL := hid hL
    have HB := hid hbfs
    have HGO' := hid hgo
    clear hL hbfs hgo HGO HS0
    obtain ⟨Q, hQ⟩ : ∃ Q, Q = L - k := ⟨_, rfl⟩
    rw [← hQ] at hmid
    have HQ := hid hQ
    obtain ⟨G, off, qc, rfl, hG1, hG2⟩ := hmid.shape
    by_cases hlt : k < L
    · have hQ0 : 0 < Q := by omega
      clear hQ
      obtain ⟨p, hp⟩ : ∃ p, ps[k]? = some p := ⟨_, List.getElem?_eq_getElem (by have := HL.out; omega)⟩
      obtain ⟨hp1, hp2, hp3⟩ := HB.out.path k p hp
      obtain ⟨pa, pc, hvk, hpo⟩ := hcells.at hp
      have hcell := hmid.cell (j := 0) (show (vs.drop k)[0]? = some (.slice pa p.length pc) by rw [List.getElem?_drop]; exact hvk)
      rw [Nat.add_zero] at hcell
      obtain ⟨t, ht⟩ : ∃ t, t = lastD p := ⟨_, rfl⟩
      have htn : t < n := by rw [ht]; exact hp3 _ (lastD_mem hp2)
      have hlast := lastD_at hp2
      rw [← ht] at hlast
      obtain ⟨pg, rfl, hpg1, hpg2⟩ := own_some hpo (by omega)
      have hcl := (hpo.cellAt (p.length - 1) (by omega)).trans (at_natV hlast)
      obtain ⟨m, hm⟩ : ∃ m, m = p.length := ⟨_, rfl⟩
      rw [← hm] at hcell hcl hp1 hp2 hpo hvk
      have HV := hid hvk
      have HM := hid hm
      have HP := hid hp
      have HT := hid ht
      have hm1 : (1 : Int) ≤ m := by omega
      have Ct := hid (fun w1 (hb : Below w.heap.size w w1) => C.out w1 t start (HR.out.below hb) htn (by omega))
      clear hm hp ht hp3 hlast hvk
      have hi1 : (m : Int) - 1 < m := by omega
      have hi0 : (0 : Int) ≤ (m : Int) - 1 := by omega
      by_cases hbt : bit ns t start = true
      · rw [show (ns.getD t 0).testBit start = true from hbt] at Ct
        go_wp2_with fail
        refine (Ct.out _ hbel).mono ?_
        rintro e w1 ⟨rfl, rfl⟩
        go_wp2
        go_ret
        have hr : p = res := by
          rw [← HGO'.out, show 20 - k = (19 - k) + 1 by omega, go_hit HP.out (by rw [← HT.out]; exact hbt)]
        subst hr
        refine ⟨_, _, ret_slice HM.out, ?_, by rw [← HM.out]; exact hpo, hbel⟩
        have : ¬ p = [] := fun e => by have := HM.out; rw [e] at this; simp at this; omega
        simp [this]
      · have hbt : bit ns t start = false := by simpa using hbt
        rw [show (ns.getD t 0).testBit start = false from hbt] at Ct
        obtain ⟨wo, rfl⟩ : ∃ wo : World, wo = wr := ⟨_, rfl⟩
        go_wp2_with fail
        refine (Ct.out _ hbel).mono ?_
        rintro e w1 ⟨rfl, rfl⟩
        go_wp2
        clear hcell hcl hpo
        go_loopw [5, 6, 34] (fun s v jv wr => ∃ (j seen' : Nat) (qs : List (List Nat)) (vs : List Value), j ≤ n ∧ jv = .int .i64 j ∧ s = .int .i64 seen' ∧ Mid wr w.heap.size 23 v (qs.length - k) (vs.drop k) ∧ Cells wr w.heap.size vs qs ∧ Bfs n qs seen' ∧ (qs, seen') = extUpto ns p j (ps, seen) ∧ qs[k]? = some p ∧ vs[k]? = some (.slice (some ⟨pg, 0, none⟩) m pc) ∧ L ≤ qs.length ∧ Below w.heap.size w wr) (fun _ _ jv _ => n - (intOf jv).toNat)
        case atStart =>
          exact ⟨0, seen, ps, vs, Nat.zero_le _, rfl, rfl, by rw [← HL.out, ← HQ.out]; exact hmid, hcells, HB.out, rfl, HP.out, HV.out, by rw [← HL.out]; exact Nat.le_refl _, hbel⟩
        case round =>
          clear hmid hcells hbel HB hpg1 hpg2 HV
          obtain ⟨j, seen', qs, vs, hj, rfl, rfl, hmid, hcells, hbfs, heq, hqk, hvk, hLq, hbel⟩ := hrel
          have hq17 := hbfs.le hlen
          obtain ⟨K, hK⟩ : ∃ K, K = qs.length := ⟨_, rfl⟩
          rw [← hK] at hmid hq17 hLq
          have HK := hid hK
          have HB := hid hbfs
          have HEQ := hid heq
          have HQK := hid hqk
          have HV := hid hvk
          have hs16 : seen' < 65536 := Nat.lt_of_lt_of_le hbfs.lt (Nat.pow_le_pow_right (n := 2) (by omega) hlen)
          obtain ⟨R, hR⟩ : ∃ R, R = K - k := ⟨_, rfl⟩
          rw [← hR] at hmid
          have HRR := hid hR
          obtain ⟨pa', pc', hvk', hpo⟩ := hcells.at hqk
          rw [hvk, ← HM.out] at hvk'
          simp only [Option.some.injEq, Value.slice.injEq, true_and] at hvk'
          obtain ⟨rfl, rfl⟩ := hvk'
          clear hK hbfs heq hqk hvk hR
          by_cases hjn : j < n
          · have Cj := hid (fun w1 (hb : Below w.heap.size w w1) => C.out w1 t j (HR.out.below hb) htn (by omega))
            by_cases hb1 : bit ns t j = true
            · rw [show (ns.getD t 0).testBit j = true from hb1] at Cj
              have hseen := seen_i64 seen' j hs16
              by_cases hb2 : seen'.testBit j = true
              · rw [hb2] at hseen
                have hseen' : (bits .and .i64 ((seen' : Int) / 2 ^ j) 1 == 0) = false := hseen
                clear hseen
                go_wp2_with fail
                refine (Cj.out _ hbel).mono ?_
                rintro e w1 ⟨rfl, rfl⟩
                go_wp2
                go_roundw
                case rel => exact ⟨j + 1, seen', qs, vs, by omega, by go_num, rfl, by rw [← HK.out, ← HRR.out]; exact hmid, hcells, HB.out, by rw [ext_succ, ← HEQ.out, ext_no (by simp [hb2])], HQK.out, HV.out, by rw [← HK.out]; exact hLq, hbel⟩
                case measure => simp [intOf]; omega
              · have hb2 : seen'.testBit j = false := by simpa using hb2
                rw [hb2] at hseen
                have hseen' : (bits .and .i64 ((seen' : Int) / 2 ^ j) 1 == 0) = true := hseen
                clear hseen
                have hsh := shl_one j (by omega)
                have hor := or_shl seen' j hs16 (by omega)
                have hm18 : m ≤ 18 := by omega
                have HLN := hid (show m = p.length from HM.out)
                rw [← HM.out] at hpo
                have CC := hid (fun (w : World) h => clone_c w (some ⟨pg, 0, none⟩) pc p h (by have := HM.out; omega))
                unfold RetN at CC
                rw [← HM.out] at CC
                go_wp2_with fail
                refine (Cj.out _ hbel).mono ?_
                rintro e w1 ⟨rfl, rfl⟩
                go_wp2_with fail
                refine (CC.out _ (Rd.own hpo)).mono ?_
                rintro e w1 ⟨a1, c1, rfl, hown1, hb01⟩
                have hz1 := hb01.size
                clear hpo
                go_wp2_with (at_builtin; refine wpList_append_one rfl (.tmp 54) (.tmp 56) 23 rfl wr.heap.size 3 (.int .i64 0) 8 Try.underlying23 Try.info_int rfl _ _ _ rfl (hown1.alloc _) _ (.int .i64 (j : Nat)) rfl (by simp) rfl (by omega) (by omega) (by simp; omega) ?_)
                intro v2 w2 hown2 hgrow2
                have hb02 : Below wr.heap.size wr w2 := (hb01.alloc hz1 _).grown hgrow2 (by simp; omega) (fun b hb => (hown1.lt b hb).1)
                have hnat : natV p ++ [Value.int .i64 (j : Nat)] = natV (p ++ [j]) := by simp [natV]
                have hown2 : w2.ownsRow wr.heap.size 3 1 v2 (m + 1) (natV (p ++ [j])) := by rw [← hnat]; exact hown2
                obtain ⟨a2, c2, rfl, hl2⟩ := own_shape hown2
                have hz2 := hb02.size
                have hmidO := hmid.below hb02
                have hcellsO := hcells.below hb02
                have hR17 : R ≤ 17 := by have := HRR.out; omega
                clear hgrow2 hown1 hmid hcells hb01 hnat
                go_wp2_with (at_builtin; refine wpList_append_mid rfl (.tmp 52) (.tmp 58) 58 rfl w.heap.size 23 (.slice none 0 0) 24 Try.underlying58 Try.info_ints rfl _ _ _ rfl (hmidO.below ((Below.refl _ _).alloc (Nat.le_refl _) _)) _ (.slice a2 (m + 1) c2) rfl (by simp) rfl (by omega) (by omega) (by have := hbel.size; simp; omega) ?_)
                intro v3 w3 hmid3 hgrow3
                have hmp : (p ++ [j]).length = m + 1 := by rw [List.length_append, ← HM.out]; rfl
                have hblk := hmidO.block
                have hbel3 : Below w.heap.size w w3 := ((hbel.trans (hb02.mono hbel.size)).alloc (by have := hbel.size; omega) _).grown hgrow3 (by have := hbel.size; simp; omega) (fun b hb => (hblk b hb).1)
                have hcells3 : Cells w3 w.heap.size (vs ++ [.slice a2 (m + 1) c2]) (qs ++ [p ++ [j]]) := by
                  have h1 : Cells (w2.alloc (.cells #[.slice a2 (m + 1) c2] 23)) w.heap.size (vs ++ [.slice a2 (m + 1) c2]) (qs ++ [p ++ [j]]) := by
                    have := (hcellsO.below ((Below.refl _ _).alloc (Nat.le_refl _) (.cells #[.slice a2 (m + 1) c2] 23))).snoc (p := p ++ [j]) (a := a2) (cap := c2) (by rw [hmp]; exact own_mono (hown2.alloc _) (by have := hbel.size; omega))
                    rw [hmp] at this
                    exact this
                  refine h1.grown hgrow3 fun b hb => .inl ?_
                  obtain ⟨_, cur, fz, hg'⟩ := hblk b hb
                  exact ⟨cur, fz, by rw [Below.heap_alloc _ _ _ (Array.getElem?_eq_some_iff.1 hg').1]; exact hg'⟩
                have hvl := hcellsO.1
                clear hgrow3 hmidO hcellsO hown2 hb02 hl2 hblk
                go_wp2
                go_roundw
                case rel =>
                  have hvsl : vs.length = K := by rw [hvl, HK.out]
                  have hkK : k < K := by omega
                  refine ⟨j + 1, seen' ||| 2 ^ j, qs ++ [p ++ [j]], vs ++ [.slice a2 (m + 1) c2], by omega, by go_num, rfl, ?_, hcells3, bfs_step HB.out HQK.out hjn hb2, ?_, ?_, ?_, by rw [List.length_append, ← HK.out]; omega, hbel3⟩
                  · rw [List.length_append, ← HK.out, List.drop_append_of_le_length (by omega), show K + [p ++ [j]].length - k = R + 1 by have := HRR.out; simp; omega]
                    exact hmid3
                  · rw [ext_succ, ← HEQ.out, ext_yes (by rw [← HT.out]; exact hb1) hb2]
                  · rw [List.getElem?_append_left (List.getElem?_eq_some_iff.1 HQK.out).1]; exact HQK.out
                  · rw [List.getElem?_append_left (by omega)]; exact HV.out
                case measure => simp [intOf]; omega
            · have hb1 : bit ns t j = false := by simpa using hb1
              rw [show (ns.getD t 0).testBit j = false from hb1] at Cj
              go_wp2_with fail
              refine (Cj.out _ hbel).mono ?_
              rintro e w1 ⟨rfl, rfl⟩
              go_wp2
              go_roundw
              case rel => exact ⟨j + 1, seen', qs, vs, by omega, by go_num, rfl, by rw [← HK.out, ← HRR.out]; exact hmid, hcells, HB.out, by rw [ext_succ, ← HEQ.out, ext_no (by rw [← HT.out, hb1]; rfl)], HQK.out, HV.out, by rw [← HK.out]; exact hLq, hbel⟩
              case measure => simp [intOf]; omega
          · have HE := hid (show j = n by omega)
            obtain ⟨G', off', qc', rfl, hG1', hG2'⟩ := hmid.shape
            have hR1 : 1 ≤ R := by have := HRR.out; omega
            have hR1' : (1 : Int) ≤ R := by omega
            have HTL := hid (hmid.tail hR1)
            have HPOP' := hid (show K = popUpto n seen' + 1 by rw [HK.out]; exact HB.out.len)
            clear hmid
            have hstep : bfsGo ns start (20 - (k + 1)) (k + 1) qs seen' = res := by
              rw [← HGO'.out, show 20 - k = (20 - (k + 1)) + 1 by omega, go_miss HP.out (by rw [← HT.out]; exact hbt), ← HN.out, ← HE.out, ← HEQ.out]
            have HST := hid hstep
            clear hstep
            go_wp2
            go_roundw
            case rel =>
              refine ⟨k + 1, seen', qs, vs, by rw [← HK.out]; omega, rfl, ?_, hcells, HB.out, HST.out, hbel⟩
              rw [← HK.out, show K - (k + 1) = R - 1 by have := HRR.out; omega, show vs.drop (k + 1) = (vs.drop k).tail by rw [List.tail_drop]]
              exact HTL.out
            case measure =>
              have h1 := HPOP.out
              have h2 := HPOP'.out
              have h3 := HRR.out
              have h4 := HQ.out
              show 2 * (17 - popUpto n (seen' : Int).toNat) + (R - 1) < 2 * (17 - popUpto n (seen : Int).toNat) + Q
              rw [Int.toNat_natCast, Int.toNat_natCast]
              omega
    · have hQ0 : Q = 0 := by omega
      subst hQ0
      have HE := hid (show k = L by omega)
      go_wp2
      go_ret
      have hnone : ps[k]? = none := List.getElem?_eq_none (by have := HL.out; have := HE.out; omega)
      have hr : res = [] := by
        rw [← HGO'.out, show 20 - k = (19 - k) + 1 by omega, go_end hnone]
      subst hr
      exact ⟨none, 0, rfl, by simp, own_none _ _ _ _, hbel⟩

theorem better_no {best p : List Nat} (h : (decide (0 < p.length) && (decide (best.length = 0) || decide (p.length < best.length))) = false) : better best p = best := by
  unfold better; rw [h]; rfl
theorem better_yes {best p : List Nat} (h : (decide (0 < p.length) && (decide (best.length = 0) || decide (p.length < best.length))) = true) : better best p = p := by
  unfold better; rw [h]; rfl

theorem go_len (r : List Nat) (start n : Nat) : ∀ (f i seen : Nat) (ps : List (List Nat)), r.length = n → n ≤ 16 → start < n → Bfs n ps seen → (bfsGo r start f i ps seen).length ≤ 17 := by
  intro f
  induction f with
  | zero => intro i seen ps _ _ _ _; simp [bfsGo]
  | succ f ih =>
    intro i seen ps hr hn hs hb
    cases hp : ps[i]? with
    | none => rw [go_end hp]; simp
    | some p =>
      by_cases hbt : bit r (lastD p) start = true
      · rw [go_hit hp hbt]
        have := (hb.path i p hp).1
        have := (List.getElem?_eq_some_iff.1 hp).1
        have := hb.le hn
        omega
      · rw [go_miss hp (by simpa using hbt)]
        refine ih _ _ _ hr hn hs ?_
        have gen : ∀ k, k ≤ n → Bfs n (extUpto r p k (ps, seen)).1 (extUpto r p k (ps, seen)).2 ∧ (extUpto r p k (ps, seen)).1[i]? = some p := by
          intro k
          induction k with
          | zero => intro _; exact ⟨hb, hp⟩
          | succ k ihk =>
            intro hk
            obtain ⟨h1, h2⟩ := ihk (by omega)
            rw [ext_succ]
            by_cases hc : (bit r (lastD p) k && !(extUpto r p k (ps, seen)).2.testBit k) = true
            · simp only [Bool.and_eq_true, Bool.not_eq_true'] at hc
              rw [ext_yes hc.1 hc.2]
              exact ⟨bfs_step h1 h2 (by omega) hc.2, by rw [List.getElem?_append_left (List.getElem?_eq_some_iff.1 h2).1]; exact h2⟩
            · rw [ext_no (by simpa using hc)]
              exact ⟨h1, h2⟩
        rw [hr]
        exact (gen n (Nat.le_refl _)).1
theorem path_len {r : List Nat} (ho : Ok r) {start : Nat} (h : start < r.length) : (pathN r start).length ≤ 17 := go_len r start r.length 20 0 0 [[start]] rfl ho.len h (bfs_start h)
theorem cyc_len {r : List Nat} (ho : Ok r) (k : Nat) (h : k ≤ r.length) : (cycUpto r k).length ≤ 17 := by
  induction k with
  | zero => simp [cycUpto]
  | succ k ih =>
    rw [cyc_succ]
    unfold better
    split
    · exact path_len ho (by omega)
    · exact ih (by omega)
theorem cycle_len {r : List Nat} (ho : Ok r) : (cycleN r).length ≤ 17 := cyc_len ho _ (Nat.le_refl _)

set_option maxHeartbeats 1600000 in
theorem l2Cycle_c (w : World) (a : Option Addr) (cap : Nat) (ns : List Nat) (h : Rd w a (natV ns)) (ho : Ok ns) :
    Calls Try.prog 78 #[.slice a ns.length cap] w (RetN w (cycleN ns)) := by
  have C := hid (fun (w : World) (i : Nat) h hi => l2Path_c w a cap ns i h ho hi)
  have hlen := ho.len
  have HLE := hid (fun k hk => cyc_len ho k hk)
  have HPL := hid (fun k (hk : k < ns.length) => path_len ho hk)
  have HE := hid (show cycleN ns = cycUpto ns ns.length from rfl)
  obtain ⟨n, hn⟩ : ∃ n, n = ns.length := ⟨_, rfl⟩
  rw [← hn] at C HLE HE HPL hlen ⊢
  have HR := hid h
  clear h ho hn
  go_enter Try.func78, Try.ntmps78
  go_wp2
  go_loopw [3, 4] (fun v i wr => ∃ (k : Nat) (best : List Nat) (ba : Option Addr) (bc : Nat), k ≤ n ∧ i = .int .i64 k ∧ best = cycUpto ns k ∧ v = .slice ba best.length bc ∧ wr.ownsRow w.heap.size 3 1 (.slice ba best.length bc) best.length (natV best) ∧ Below w.heap.size w wr) (fun _ i _ => n - (intOf i).toNat)
  case atStart => exact ⟨0, [], _, _, Nat.zero_le _, rfl, rfl, rfl, own_lit0 w w.heap.size 3 (Nat.le_refl _), (Below.refl _ _).alloc (Nat.le_refl _) _⟩
  case round =>
    obtain ⟨k, best, ba, bc, hk, rfl, hb, rfl, hown, hbel⟩ := hrel
    have hb17 : best.length ≤ 17 := by rw [hb]; exact HLE.out k hk
    have HB := hid hb
    obtain ⟨bl, hbl⟩ : ∃ bl, bl = best.length := ⟨_, rfl⟩
    rw [← hbl] at hown hb17 ⊢
    have HBL := hid hbl
    clear hb hbl
    by_cases hlt : k < n
    · obtain ⟨p, hp⟩ : ∃ p, p = pathN ns k := ⟨_, rfl⟩
      have hp17 : p.length ≤ 17 := by rw [hp]; exact HPL.out k hlt
      have Ck := hid (C.out wr k (HR.out.below hbel) hlt)
      rw [← hp] at Ck
      unfold RetN at Ck
      obtain ⟨pl, hpl⟩ : ∃ pl, pl = p.length := ⟨_, rfl⟩
      rw [← hpl] at Ck hp17
      have HP := hid hp
      have HPLn := hid hpl
      clear hp hpl
      by_cases h1 : 0 < pl
      · by_cases h2 : bl = 0
        · have HBT := hid (better_yes (best := best) (p := p) (by rw [← HPLn.out, ← HBL.out]; simp [h1, h2]))
          subst h2
          go_wp2_with fail
          refine Ck.out.mono ?_
          rintro e w1 ⟨a1, c1, rfl, hown1, hb1⟩
          have hbel1 := hbel.trans (hb1.mono hbel.size)
          have hown1 := own_mono hown1 hbel.size
          go_wp2
          go_roundw
          case rel => exact ⟨k + 1, p, a1, c1, by omega, by go_num, by rw [cyc_succ, ← HB.out, ← HP.out, HBT.out], by rw [HPLn.out], by rw [← HPLn.out]; exact hown1, hbel1⟩
          case measure => simp [intOf]; omega
        · have d2 : ((bl : Int) == 0) = false := by simp; omega
          by_cases h3 : pl < bl
          · have HBT := hid (better_yes (best := best) (p := p) (by rw [← HPLn.out, ← HBL.out]; simp [h1, h3]))
            go_wp2_with fail
            refine Ck.out.mono ?_
            rintro e w1 ⟨a1, c1, rfl, hown1, hb1⟩
            have hbel1 := hbel.trans (hb1.mono hbel.size)
            have hown1 := own_mono hown1 hbel.size
            go_wp2
            go_roundw
            case rel => exact ⟨k + 1, p, a1, c1, by omega, by go_num, by rw [cyc_succ, ← HB.out, ← HP.out, HBT.out], by rw [HPLn.out], by rw [← HPLn.out]; exact hown1, hbel1⟩
            case measure => simp [intOf]; omega
          · have HBT := hid (better_no (best := best) (p := p) (by rw [← HPLn.out, ← HBL.out]; simp [h3, h2]))
            have d3 : decide ((pl : Int) < bl) = false := by simp; omega
            go_wp2_with fail
            refine Ck.out.mono ?_
            rintro e w1 ⟨a1, c1, rfl, hown1, hb1⟩
            have hbel1 := hbel.trans (hb1.mono hbel.size)
            have hown := own_below hown hb1
            go_wp2
            go_roundw
            case rel => exact ⟨k + 1, best, ba, bc, by omega, by go_num, by rw [cyc_succ, ← HB.out, ← HP.out, HBT.out], by rw [HBL.out], by rw [← HBL.out]; exact hown, hbel1⟩
            case measure => simp [intOf]; omega
      · have HBT := hid (better_no (best := best) (p := p) (by rw [← HPLn.out]; simp [h1]))
        have d1 : decide ((0 : Int) < pl) = false := by simp; omega
        go_wp2_with fail
        refine Ck.out.mono ?_
        rintro e w1 ⟨a1, c1, rfl, hown1, hb1⟩
        have hbel1 := hbel.trans (hb1.mono hbel.size)
        have hown := own_below hown hb1
        go_wp2
        go_roundw
        case rel => exact ⟨k + 1, best, ba, bc, by omega, by go_num, by rw [cyc_succ, ← HB.out, ← HP.out, HBT.out], by rw [HBL.out], by rw [← HBL.out]; exact hown, hbel1⟩
        case measure => simp [intOf]; omega
    · have HK := hid (show k = n by omega)
      go_wp2
      go_ret
      have e : cycleN ns = best := by rw [HE.out, HB.out, HK.out]
      rw [e]
      exact ⟨_, _, ret_slice HBL.out, by rw [← HBL.out]; exact hown, hbel⟩

end Go.Proofs.Ytdppidhnlbfpmaa
