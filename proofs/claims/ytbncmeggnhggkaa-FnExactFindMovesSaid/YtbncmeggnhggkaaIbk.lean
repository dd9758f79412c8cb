/-
  PROVED HERE: what (*buffers).key does; the texts by which the program tells states with store buffers apart. CONDITIONS: as each theorem states.
-/
import Derived.Test.YtbncmeggnhggkaaOwt
import Derived.Test.YtbncmeggnhggkaaIbg
namespace Go.Proofs.Ytbncmeggnhggkaa
open Go.RowKit
set_option linter.unusedVariables false
set_option linter.unusedSimpArgs false

/-- The numbers of the text of a state with store buffers. -/
def keyQ (b : List (List (Int × Int))) : List Int := b.flatMap fun r => (r.length : Int) :: bytesB r
def keyW (s : St) : List Int := keyV s ++ keyQ s.buf
theorem keyQ_succ {b : List (List (Int × Int))} {k : Nat} {r : List (Int × Int)} (h : b[k]? = some r) : keyQ (b.take (k + 1)) = keyQ (b.take k) ++ ((r.length : Int) :: bytesB r) := by
  obtain ⟨hk, rfl⟩ := List.getElem?_eq_some_iff.1 h
  unfold keyQ
  rw [List.take_succ_eq_append_getElem hk, List.flatMap_append]
  simp
theorem keyQ_len : ∀ (b : List (List (Int × Int))), (∀ r ∈ b, r.length ≤ 7) → (keyQ b).length ≤ 8 * b.length
  | [], _ => Nat.le_refl _
  | r :: b, h => by
    have h1 := keyQ_len b fun r' h' => h r' (List.mem_cons_of_mem _ h')
    have h2 := h r List.mem_cons_self
    have h3 : keyQ (r :: b) = (r.length : Int) :: (bytesB r ++ keyQ b) := by unfold keyQ; simp
    have h4 : (bytesB r).length = r.length := by unfold bytesB; simp
    rw [h3, List.length_cons, List.length_append, h4, List.length_cons]
    omega
theorem Good.smallV {p : Prg} {s : St} (h : Good p s) (hv : Shape p) : ∀ x ∈ keyV s, 0 ≤ x ∧ x ≤ 255 := by
  intro x hx
  unfold keyV pad at hx
  rcases List.mem_append.1 hx with hx | hx
  · rcases List.mem_append.1 hx with hx | hx
    · obtain ⟨i, hi⟩ := List.mem_iff_getElem?.1 hx
      have hip : i < p.length := by rw [← h.pcl]; exact (List.getElem?_eq_some_iff.1 hi).1
      obtain ⟨k, hk, hkl⟩ := h.pcb i _ (List.getElem?_eq_getElem hip)
      rw [hi] at hk
      have := hv.row i _ (List.getElem?_eq_getElem hip)
      have := Option.some.inj hk
      omega
    · have := (List.mem_replicate.1 hx).2; omega
  · rcases List.mem_append.1 hx with hx | hx
    · rcases List.mem_append.1 hx with hx | hx
      · have := h.regb x hx; omega
      · have := (List.mem_replicate.1 hx).2; omega
    · have := h.memb x hx; omega
theorem OwT.cast {w : World} {base n n' : Nat} {v : Value} {cs cs' : List Value} (h : OwT w base v n cs) (hn : n' = n) (hc : cs' = cs) : OwT w base v n' cs' := by
  subst hn
  subst hc
  exact h
set_option maxRecDepth 100000 in
set_option maxHeartbeats 3200000 in
theorem bufKey_c (w : World) (g : Nat) (p : Prg) (split : Bool) (s : St) (h : BAt w g p split s) (hv : Shape p) :
    Calls Try.prog 129 #[.pointer (some ⟨g, 0, none⟩)] w fun e w' => e = .returned (.string (strOfNums (keyW s))) ∧ Below w.heap.size w w' := by
  obtain ⟨wa, wc, _, c17, hrw, _⟩ := h.more hv
  have hgl := h.lt
  have hbl := h.good.blen hv
  have HT := hid (fun w (h : BAt w g p split s) => text_c w g p s h.v hv)
  have HR7 := hid (fun b (hb : b < s.buf.length) => h.good.rlen hv (row4_get hb))
  have HAT := hid h
  have HRW := hid hrw
  have HCV := hid (fun w => owT_conv w (keyV s) (h.good.toGood.smallV hv) (by rw [keyV_len (h.good.toGood.vlen hv)]; decide))
  have HQL := hid (fun k (hk : k ≤ s.buf.length) => show (keyV s ++ keyQ (s.buf.take k)).length ≤ 1000 from by
    rw [List.length_append, keyV_len (h.good.toGood.vlen hv)]
    have := keyQ_len (s.buf.take k) fun r hr => by
      obtain ⟨i, hi⟩ := List.mem_iff_getElem?.1 (List.mem_of_mem_take hr)
      exact h.good.rlen hv hi
    rw [List.length_take] at this
    omega)
  have HALL := hid (show keyV s ++ keyQ (s.buf.take s.buf.length) = keyW s by unfold keyW; rw [List.take_length])
  obtain ⟨bl, hbn⟩ : ∃ bl, bl = s.buf.length := ⟨_, rfl⟩
  have HC17 := hid c17
  rw [← hbn] at HC17 hbl HQL HALL
  have HBN := hid hbn
  have HW8 := hid (show ∀ l : Nat, l ≤ 7 → IntKind.u8.wrap (l : Int) = (l : Int) from by decide)
  clear h hv hrw hbn c17
  go_enter Try.func129, Try.ntmps129
  go_wp2_with fail
  refine (HT.out _ HAT.out).mono ?_
  rintro e w1 ⟨rfl, hb1⟩
  obtain ⟨v2, w2, hcv, ho2, hb2⟩ := HCV.out w1
  have HB2 := hid (hb1.trans (hb2.mono hb1.size))
  have HO2 := hid (show OwT w2 w.heap.size v2 (keyV s ++ keyQ (s.buf.take 0)).length (kbs (keyV s ++ keyQ (s.buf.take 0))) from by
    obtain ⟨q1, g9, cap9, cur9, fz9, q2, q3, q4⟩ := ho2
    have : keyV s ++ keyQ (s.buf.take 0) = keyV s := by simp [keyQ]
    rw [this]
    exact ⟨q1, g9, cap9, cur9, fz9, q2, Nat.le_trans hb1.size q3, q4⟩)
  clear ho2 hb2
  have c17 := (HB2.out.cell (p := ⟨g, 17, none⟩) hgl).trans HC17.out
  go_wp2_with fail
  clear hcv c17
  go_loopw [3, 5, 16] (fun v _ i wr => ∃ k : Nat, k ≤ bl ∧ i = .int .i64 k ∧ Hid (OwT wr w.heap.size v (keyV s ++ keyQ (s.buf.take k)).length (kbs (keyV s ++ keyQ (s.buf.take k)))) ∧ Hid (Below w.heap.size w wr)) (fun _ _ i _ => bl - (intOf i).toNat)
  case atStart => exact ⟨0, Nat.zero_le _, rfl, HO2, HB2⟩
  case round =>
    clear HO2 HB2
    obtain ⟨k, hk, rfl, HO, HB⟩ := hrel
    have hbs := HB.out.size
    by_cases hlt : k < bl
    · have HRK := hid (row4_get (s := s) (b := k) (by rw [← HBN.out]; exact hlt))
      obtain ⟨b, off, r, c, hab, hbl', hcell, hrd, _⟩ := HRW.out.at' HRK.out
      subst hab
      have hcw := (HB.out.cell (p := ⟨b, off + k, none⟩) hbl').trans hcell
      have h7 := HR7.out k (by rw [← HBN.out]; exact hlt)
      have HRD := hid hrd
      have HBY := hid (show (bytesB (row4 s k)).length = (row4 s k).length by unfold bytesB; simp)
      have HNX := hid (show keyV s ++ keyQ (s.buf.take (k + 1)) = (keyV s ++ keyQ (s.buf.take k)) ++ [((row4 s k).length : Int)] ++ bytesB (row4 s k) by rw [keyQ_succ HRK.out]; simp)
      have hql := HQL.out k hk
      obtain ⟨l, hl⟩ : ∃ l, l = (row4 s k).length := ⟨_, rfl⟩
      rw [← hl] at hcw h7 HBY HNX
      obtain ⟨nk, hnk⟩ : ∃ nk, nk = (keyV s ++ keyQ (s.buf.take k)).length := ⟨_, rfl⟩
      have HNK := hid hnk
      rw [← hnk] at HO hql
      have hw8 := HW8.out l h7
      clear hrd hcell hl hnk
      have HOA := hid (HO.out.below ((Below.refl _ _).alloc (Nat.le_refl _) (.cells #[.int .u8 (l : Int)] 5)))
      have HLIT := hid (rd_oneB wr (l : Int) 5)
      have hsz : w.heap.size ≤ (wr.alloc (.cells #[.int .u8 (l : Int)] 5)).heap.size := by rw [World.size_alloc]; omega
      have HSZ := hid hsz
      have hki : (k : Int) < bl := by omega
      go_wp2_with (at_builtin; refine wpList_append_T rfl (.tmp 20) (.tmp 24) rfl w.heap.size _ nk (kbs (keyV s ++ keyQ (s.buf.take k))) rfl HOA.out (some ⟨wr.heap.size, 0, none⟩) 1 1 [.int .u8 (l : Int)] rfl HLIT.out rfl (by simp [Value.oneCell']) (kbs_one _) (by omega) HSZ.out ?_)
      intro v3 w3 hown3 hgrow3
      have HB3 := hid ((HB.out.alloc hbs (.cells #[.int .u8 (l : Int)] 5)).grown hgrow3 HSZ.out (fun b hb => (HO.out.blk b hb).1))
      have HO3 := hid (show OwT w3 w.heap.size v3 (nk + 1) (kbs (keyV s ++ keyQ (s.buf.take k)) ++ [Value.int .u8 (l : Int)]) from hown3.cast rfl (by simp))
      have HR3 := hid (HRD.out.below HB3.out)
      have hs3 := HB3.out.size
      clear hown3 hgrow3 HOA HLIT
      obtain ⟨g3, c3, rfl, _⟩ := HO3.out.shape
      have h1x : ∀ u ∈ kbs (keyV s ++ keyQ (s.buf.take k)) ++ [Value.int .u8 (l : Int)], u.oneCell' = true := by
        have : kbs (keyV s ++ keyQ (s.buf.take k)) ++ [Value.int .u8 (l : Int)] = kbs (keyV s ++ keyQ (s.buf.take k) ++ [(l : Int)]) := by simp
        rw [this]
        exact kbs_one _
      have H1X := hid h1x
      have HLB := hid (show (b8s (bytesB (row4 s k))).length = l by rw [List.length_map]; exact HBY.out)
      clear h1x
      go_wp2_with (at_builtin; refine wpList_append_T rfl (.tmp 25) (.tmp 26) rfl w.heap.size _ (nk + 1) (kbs (keyV s ++ keyQ (s.buf.take k)) ++ [Value.int .u8 (l : Int)]) rfl HO3.out r l c (b8s (bytesB (row4 s k))) rfl HR3.out HLB.out (kbs_one _) H1X.out (by omega) hs3 ?_)
      intro v4 w4 hown4 hgrow4
      have HB4 := hid (HB3.out.grown hgrow4 hs3 (fun b hb => (HO3.out.blk b hb).1))
      have HO4 := hid (show OwT w4 w.heap.size v4 (keyV s ++ keyQ (s.buf.take (k + 1))).length (kbs (keyV s ++ keyQ (s.buf.take (k + 1)))) from by
        rw [HNX.out]
        refine hown4.cast ?_ (by simp)
        rw [List.length_append, List.length_append, ← HNK.out, HBY.out]
        rfl)
      clear hown4 hgrow4 HO3 HR3
      obtain ⟨g4, c4, rfl, _⟩ := HO4.out.shape
      go_wp2_with fail
      go_roundw
      case rel => exact ⟨k + 1, by omega, by go_num, HO4, HB4⟩
      case measure => simp [intOf]; omega
    · have hkb : k = bl := by omega
      subst hkb
      rw [HALL.out] at HO
      obtain ⟨g9, c9, rfl, _⟩ := HO.out.shape
      have hcv := conv_T HO.out rfl
      go_wp2_with fail
      go_ret
      exact ⟨rfl, HB.out⟩
end Go.Proofs.Ytbncmeggnhggkaa
