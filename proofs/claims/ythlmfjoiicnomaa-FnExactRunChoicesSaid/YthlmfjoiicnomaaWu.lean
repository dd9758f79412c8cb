/-
  PROVED HERE: what (*views).moves does. CONDITIONS: as each theorem states.
-/
import Derived.Test.YthlmfjoiicnomaaWt
import Derived.Test.YthlmfjoiicnomaaShs
namespace Go.Proofs.Ythlmfjoiicnomaa
open Go.RowKit
set_option linter.unusedVariables false
set_option linter.unusedSimpArgs false

open Go.Sort in
theorem sortW_c (w : World) (base cap : Nat) (a : Option Addr) (zs : List Int) (h : OwI w base a cap zs) (hl : zs.length ≤ 1000000) :
    Calls Try.prog 141 #[.slice a zs.length cap] w fun e w' => e = .returned (.tuple #[]) ∧ OwI w' base a cap (zs.mergeSort fun x y => decide (x ≤ y)) ∧ Keeps (fun b => base ≤ b) w w' := by
  have hlen : (zs.mergeSort fun x y => decide (x ≤ y)).length = zs.length := List.length_mergeSort _
  rcases h.2 with ⟨hv, h0⟩ | ⟨g, cap', cur, hv, hg, hb, hc, hm, hs, ht⟩
  · simp only [Value.slice.injEq] at hv
    obtain ⟨rfl, _, rfl⟩ := hv
    have e : zs = [] := List.eq_nil_of_length_eq_zero h0
    subst e
    refine (Try.slices_Sort_int_none none 0 w).mono ?_
    rintro e w' ⟨rfl, rfl⟩
    exact ⟨rfl, by simpa using h, Keeps.refl _ _⟩
  · simp only [Value.slice.injEq, true_and] at hv
    obtain ⟨rfl, rfl⟩ := hv
    rw [Nat.mul_one] at ht
    refine (Try.slices_Sort_int g 0 cap zs w (holds_of_blockI hb ht) (Array.getElem?_eq_some_iff.1 hb).1 (by omega)).mono ?_
    rintro e w' ⟨rfl, n, os, rfl⟩
    refine ⟨rfl, ?_, Keeps.of_grown (grownBy_sortedI _) (fun k hk => by simp only [Option.some.injEq] at hk; omega)⟩
    unfold OwI
    rw [hlen]
    exact ownsRow_sortedI hlen hg hb hc hm hs
/-- The moves of the threads below t, each once. -/
structure MvOk (p : Prg) (s : Vs) (t : Nat) (ml : List Int) : Prop where
  mem : ∀ m, m ∈ ml ↔ ∃ c : Nat, m = c ∧ c % 3 < t ∧ can5 p s (c % 3) (c / 3) = true
  nodup : ml.Nodup
  len : ml.length ≤ 30 * t
/-- And those of thread t out of the first j places. -/
structure MvIn (p : Prg) (s : Vs) (t : Nat) (ks : List Int) (j : Nat) (ml : List Int) : Prop where
  mem : ∀ m, m ∈ ml ↔ (∃ c : Nat, m = c ∧ c % 3 < t ∧ can5 p s (c % 3) (c / 3) = true) ∨ ∃ (i : Nat) (k : Nat), i < j ∧ ks[i]? = some (k : Int) ∧ m = ((3 * k + t : Nat) : Int)
  nodup : ml.Nodup
  len : ml.length ≤ 30 * t + j
theorem MvOk.start (p : Prg) (s : Vs) : MvOk p s 0 [] := ⟨fun m => ⟨fun h => (by cases h), fun ⟨c, _, h, _⟩ => by omega⟩, List.nodup_nil, by decide⟩
theorem MvOk.inn {p : Prg} {s : Vs} {t : Nat} {ml : List Int} (h : MvOk p s t ml) (ks : List Int) : MvIn p s t ks 0 ml :=
  ⟨fun m => (h.mem m).trans ⟨.inl, fun e => e.elim id fun ⟨i, k, hi, _⟩ => by omega⟩, h.nodup, h.len⟩
theorem MvIn.step {p : Prg} {s : Vs} {t : Nat} {ks ml : List Int} {j k : Nat} (h : MvIn p s t ks j ml) (ht : t < 3) (hk : PlOk p s t ks) (hj : ks[j]? = some (k : Int)) : MvIn p s t ks (j + 1) (ml ++ [((3 * k + t : Nat) : Int)]) := by
  refine ⟨fun m => ?_, ?_, ?_⟩
  · rw [List.mem_append, h.mem, List.mem_singleton]
    constructor
    · rintro ((h1 | ⟨i, k', hi, h1, h2⟩) | rfl)
      · exact .inl h1
      · exact .inr ⟨i, k', by omega, h1, h2⟩
      · exact .inr ⟨j, k, by omega, hj, rfl⟩
    · rintro (h1 | ⟨i, k', hi, h1, h2⟩)
      · exact .inl (.inl h1)
      · by_cases e : i = j
        · subst e
          rw [hj] at h1
          have := Option.some.inj h1
          right
          rw [h2]
          omega
        · exact .inl (.inr ⟨i, k', by omega, h1, h2⟩)
  · rw [List.nodup_append]
    refine ⟨h.nodup, by simp, fun a ha b hb => ?_⟩
    rw [List.mem_singleton] at hb
    subst hb
    rintro rfl
    rcases (h.mem _).1 ha with ⟨c, hc, h1, _⟩ | ⟨i, k', hi, h1, h2⟩
    · omega
    · have e : k' = k := by omega
      subst e
      have hlt := (List.getElem?_eq_some_iff.1 hj).1
      have := (List.getElem?_inj (by omega) hk.nodup).1 (h1.trans hj.symm)
      omega
  · rw [List.length_append]
    have := h.len
    simp
    omega
theorem MvIn.out {p : Prg} {s : Vs} {t : Nat} {ks ml : List Int} (h : MvIn p s t ks ks.length ml) (ht : t < 3) (hk : PlOk p s t ks) : MvOk p s (t + 1) ml := by
  refine ⟨fun m => (h.mem m).trans ⟨?_, ?_⟩, h.nodup, by have := h.len; have := hk.len; omega⟩
  · rintro (⟨c, rfl, h1, h2⟩ | ⟨i, k, hi, h1, rfl⟩)
    · exact ⟨c, rfl, by omega, h2⟩
    · obtain ⟨k', e, hc⟩ := (hk.mem _).1 (List.mem_of_getElem? h1)
      have e : k = k' := by omega
      subst e
      refine ⟨3 * k + t, rfl, by omega, ?_⟩
      rw [show (3 * k + t) % 3 = t by omega, show (3 * k + t) / 3 = k by omega]
      exact hc
  · rintro ⟨c, rfl, h1, h2⟩
    by_cases e : c % 3 < t
    · exact .inl ⟨c, rfl, e, h2⟩
    · have e : c % 3 = t := by omega
      rw [e] at h2
      obtain ⟨i, hi⟩ := List.mem_iff_getElem?.1 ((hk.mem ((c / 3 : Nat) : Int)).2 ⟨c / 3, rfl, h2⟩)
      exact .inr ⟨i, c / 3, (List.getElem?_eq_some_iff.1 hi).1, hi, by omega⟩
theorem moves5_asc (p : Prg) (s : Vs) : (moves5 p s).Pairwise (· < ·) := by
  unfold moves5
  rw [List.pairwise_map]
  exact (List.Pairwise.filter _ List.pairwise_lt_range).imp fun h => by omega
theorem sort_moves5 {p : Prg} {s : Vs} {ml : List Int} (h : MvOk p s p.length ml) (hg : Good5 p s) (hv : Shape p) : ml.mergeSort (fun x y => decide (x ≤ y)) = moves5 p s := by
  have hp : ml.Perm (moves5 p s) := by
    refine (List.perm_ext_iff_of_nodup h.nodup ((moves5_asc p s).imp fun h => by omega)).2 fun m => ?_
    rw [h.mem, mem_moves5 hg hv]
    constructor
    · rintro ⟨c, e, _, hc⟩
      exact ⟨c, e, hc⟩
    · rintro ⟨c, e, hc⟩
      refine ⟨c, e, ?_, hc⟩
      unfold can5 at hc
      simp only [Bool.and_eq_true] at hc
      exact goes_thr hg.good hc.1
  refine List.Perm.eq_of_pairwise (le := (· ≤ ·)) (fun a b _ _ h1 h2 => by omega) ?_ ((moves5_asc p s).imp fun h => by omega) ((List.mergeSort_perm ml _).trans hp)
  have := List.pairwise_mergeSort (le := fun x y : Int => decide (x ≤ y)) (fun a b c h1 h2 => by simp at *; omega) (fun a b => by simp; omega) ml
  exact this.imp fun h => by simpa using h
set_option maxRecDepth 100000 in
set_option maxHeartbeats 1600000 in
theorem vMoves_c (w : World) (g : Nat) (p : Prg) (s : Vs) (h : VwAt w g p s) (hv : Shape p) :
    Calls Try.prog 133 #[.pointer (some ⟨g, 0, none⟩)] w (RetL w (moves5 p s)) := by
  have HAT := hid h
  have HPL := hid (fun w (h : VwAt w g p s) t (ht : t < p.length) => places_c w g p s t h hv ht)
  have HVS := hid hv
  have HMX := hid (fun m (hm : m ∈ moves5 p s) => show m < 75 + 3 from by
    have h1 := HAT.out.good.most_le hv
    unfold moves5 at hm
    obtain ⟨c, hc, rfl⟩ := List.mem_map.1 hm
    have := List.mem_range.1 (List.mem_filter.1 hc).1
    omega)
  have HSO := hid (fun ml (h : MvOk p s p.length ml) => sort_moves5 h HAT.out.good hv)
  obtain ⟨a, cap, hrp, h0, _, _, _⟩ := h.v.cells hv
  have hgl : g < w.heap.size := World.block_lt_of_cell? w ⟨g, 0, none⟩ h0
  obtain ⟨n, hn⟩ : ∃ n, n = p.length := ⟨_, rfl⟩
  have hn3 : n ≤ 3 := by rw [hn]; exact hv.len
  rw [← hn] at h0 HPL HSO
  clear hn h hv hrp
  go_enter Try.func133, Try.ntmps133
  go_wp2_with fail
  go_loopw [3, 4, 6, 13] (fun v _ _ i wx => ∃ (t : Nat) (ml : List Int), t ≤ n ∧ i = .int .i64 t ∧ Hid (MvOk p s t ml) ∧ Hid (wx.ownsRow w.heap.size 3 1 v ml.length (ints ml)) ∧ Hid (Below w.heap.size w wx)) (fun _ _ _ i _ => n - (intOf i).toNat)
  case atStart => exact ⟨0, [], Nat.zero_le _, rfl, hid (MvOk.start p s), hid (own_none _ _ _ 1), hid (Below.refl _ _)⟩
  case round =>
    obtain ⟨t, ml, ht, rfl, HMO, HO, HB⟩ := hrel
    by_cases hlt : t < n
    · have hlt' : (t : Int) < (n : Int) := by omega
      have HPC := hid (HPL.out wr (HAT.out.below HB.out) t hlt)
      clear h0
      go_wp2_with fail
      refine HPC.out.mono ?_
      rintro e w2 ⟨ks, ⟨ka, kc, rfl, hown, hb2⟩, hok⟩
      have HOK := hid hok
      have HKR := hid (Rd.own hown)
      have HO2 := hid (own_below HO.out hb2)
      have HB2 := hid (HB.out.trans (hb2.mono HB.out.size))
      have hkl := hok.len
      have hkb := hid (fun b hb => Nat.le_trans HB.out.size (own_blk hown b hb).1)
      have HKO := hid (fun b hb => (own_blk hown b hb).1)
      have HVB := hid (fun b hb => (HO.out.lt b hb).2)
      obtain ⟨l, hll⟩ : ∃ l, l = ks.length := ⟨_, rfl⟩
      rw [← hll] at hkl ⊢
      have HLL := hid hll
      clear hok hown hb2 hll
      go_wp2_with fail
      go_loopw [3, 6, 20] (fun v _ i wx => ∃ (j : Nat) (ml' : List Int), j ≤ l ∧ i = .int .i64 j ∧ Hid (MvIn p s t ks j ml') ∧ Hid (wx.ownsRow w.heap.size 3 1 v ml'.length (ints ml')) ∧ Hid (Below w.heap.size w wx) ∧ Hid (Rd wx ka (ints ks)) ∧ Hid (∀ b, v.ownBlock = some b → blk ka ≠ some b)) (fun _ _ i _ => l - (intOf i).toNat)
      case atStart => exact ⟨0, ml, Nat.zero_le _, rfl, hid (HMO.out.inn ks), HO2, HB2, HKR, hid (fun b hb e => by have := HVB.out b hb; have := HKO.out b e; omega)⟩
      case round =>
        clear HKR HO2 HB2 HVB HPC HO HB
        obtain ⟨j, ml', hj, rfl, HMI, HO, HB, HKR, HVB⟩ := hrel
        have hml := HMI.out.len
        by_cases hjl : j < l
        · obtain ⟨kb, ko, hab, hbl, hc⟩ := HKR.out.int j (by rw [← HLL.out]; exact hjl)
          subst hab
          have hjk : j < ks.length := by rw [← HLL.out]; exact hjl
          obtain ⟨kk, hkk, hcan⟩ := (HOK.out.mem ks[j]).1 (List.getElem_mem _)
          rw [hkk] at hc
          have HKJ := hid (show ks[j]? = some (kk : Int) by rw [List.getElem?_eq_getElem hjk, hkk])
          have hkk25 : kk ≤ 30 := by
            obtain ⟨hf⟩ : Nonempty (((kk * 3 + t : Nat) : Int) ∈ moves5 p s) := ⟨(mem_moves5 HAT.out.good HVS.out _).2 ⟨kk * 3 + t, rfl, by
              rw [show (kk * 3 + t) % 3 = t by omega, show (kk * 3 + t) / 3 = kk by omega]; exact hcan⟩⟩
            have h1 := HMX.out _ hf
            omega
          clear hkk hcan hjk
          obtain ⟨x, hx⟩ : ∃ x : Int, x = ((3 * kk + t : Nat) : Int) := ⟨_, rfl⟩
          have hx3 : 3 * (kk : Int) + (t : Int) = x := by omega
          have HST := hid (HMI.out.step (by omega) HOK.out HKJ.out)
          rw [← hx] at HST
          have hxb : 0 ≤ x ∧ x ≤ 1000 := by omega
          clear hx
          have hjl' : (j : Int) < (l : Int) := by omega
          have hb5 : Below wr.heap.size wr (wr.alloc (.cells #[.int .i64 x] 3)) := (Below.refl _ _).alloc (Nat.le_refl _) _
          have HO5 := hid (own_below HO.out hb5)
          have hs4 := HB.out.size
          have HB5 := hid (HB.out.trans (hb5.mono hs4))
          have HK5 := hid (HKR.out.below hb5)
          clear hb5
          go_wp2_with (at_builtin; refine wpList_append_rd rfl (.tmp 24) (.tmp 29) 24 rfl w.heap.size 3 (.int .i64 0) 1 8 Try.underlying24 Try.info_int rfl (by decide) _ _ _ rfl HO5.out _ 1 1 [.int .i64 x] rfl (rd_oneW wr _ _) rfl (by simp [Value.oneCell']) (by omega) (by decide) (by simp; omega) ?_)
          intro v6 w6 hown6 hgrow6 hat6
          have HO7 := hid (own_snoc (w := w) hown6)
          have HB6 := hid (HB5.out.grown hgrow6 (by simp; omega) (fun b hb => (HO5.out.lt b hb).1))
          have HK6 := hid (HK5.out.keeps (Keeps.of_grown hgrow6 fun k hk => hk) (fun b hb e => HVB.out b e hb))
          have HV6 := hid (show ∀ b, v6.ownBlock = some b → blk (some (⟨kb, ko, none⟩ : Addr)) ≠ some b from fun b hb e => by
            rcases hat6 with h | h
            · exact HVB.out b (by rw [← h]; exact hb) e
            · rw [h] at hb
              have h1 := Option.some.inj hb
              have h2 : kb = b := by simpa [blk] using e
              (try simp at h1)
              omega)
          obtain ⟨a6, c6, rfl, _⟩ := own_shape hown6
          clear hown6 hgrow6 hat6
          go_wp2_with fail
          go_roundw
          case rel => exact ⟨j + 1, ml' ++ [x], by omega, by go_num, HST, HO7, HB6, HK6, HV6⟩
          case measure => simp [intOf]; omega
        · obtain rfl : j = l := by omega
          have HMO2 := hid (MvIn.out (by have h := HMI.out; rw [HLL.out] at h; exact h) (by omega) HOK.out)
          go_wp2_with fail
          go_roundw
          case rel => exact ⟨t + 1, ml', by omega, by go_num, HMO2, HO, HB⟩
          case measure => simp [intOf]; omega
    · obtain rfl : t = n := by omega
      have hlt' : ¬ ((t : Int) < (t : Int)) := by omega
      have hml := HMO.out.len
      obtain ⟨a1, c1, rfl, _⟩ := own_shape HO.out
      have HSC := hid (sortW_c wr w.heap.size c1 a1 ml HO.out (by omega))
      rw [HSO.out ml HMO.out] at HSC
      have HLN := hid (show ml.length = (moves5 p s).length from by rw [← HSO.out ml HMO.out]; exact (List.length_mergeSort _).symm)
      obtain ⟨ll, hl⟩ : ∃ ll, ll = ml.length := ⟨_, rfl⟩
      rw [← hl] at HSC HLN
      rw [← hl]
      clear hl
      clear h0
      go_wp2_with fail
      refine HSC.out.mono ?_
      rintro e w3 ⟨rfl, ho3, hk3⟩
      have HO3 := hid ho3
      have HB3 := hid (Proofs.Ythlmfjoiicnomaa.Below.keeps HB.out hk3 HB.out.size (fun b hb => hb))
      clear ho3 hk3
      go_wp2_with fail
      go_ret
      exact ⟨a1, c1, by rw [← HLN.out]; rfl, HO3.out, HB3.out⟩
end Go.Proofs.Ythlmfjoiicnomaa
