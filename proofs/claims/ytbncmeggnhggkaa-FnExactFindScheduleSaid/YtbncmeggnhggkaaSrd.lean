/-
  PROVED HERE: what the closure of impl.search does, for the plain machine. CONDITIONS: as each theorem states.
-/
import Derived.Test.YtbncmeggnhggkaaSrl
import Derived.Deep.RegionHeld3
namespace Go.Proofs.Ytbncmeggnhggkaa
open Go.RowKit
set_option linter.unusedVariables false
set_option linter.unusedSimpArgs false

theorem mth_key (b : Nat) (w : World) : (method 305 88 (.pointer (some ⟨b, 0, none⟩)) "loop.example/weakmemory/impl.key").run Try.prog w = .ok (121, .pointer (some ⟨b, 0, none⟩)) w := by kernel_rfl
theorem mth_done (b : Nat) (w : World) : (method 305 88 (.pointer (some ⟨b, 0, none⟩)) "loop.example/weakmemory/impl.done").run Try.prog w = .ok (120, .pointer (some ⟨b, 0, none⟩)) w := by kernel_rfl
theorem mth_moves (b : Nat) (w : World) : (method 305 88 (.pointer (some ⟨b, 0, none⟩)) "loop.example/weakmemory/impl.moves").run Try.prog w = .ok (122, .pointer (some ⟨b, 0, none⟩)) w := by kernel_rfl
theorem mth_after (b : Nat) (w : World) : (method 305 88 (.pointer (some ⟨b, 0, none⟩)) "loop.example/weakmemory/impl.after").run Try.prog w = .ok (118, .pointer (some ⟨b, 0, none⟩)) w := by kernel_rfl
theorem mth_out (b : Nat) (w : World) : (method 305 88 (.pointer (some ⟨b, 0, none⟩)) "loop.example/weakmemory/impl.outcome").run Try.prog w = .ok (123, .pointer (some ⟨b, 0, none⟩)) w := by kernel_rfl
theorem cf_key : ∀ args (w : World), (callFunc 121 args).run Try.prog w = .ok (.enter 121 args) w := fun args w => run_callFunc Try.func121 (by kernel_rfl) rfl args w
theorem cf_done : ∀ args (w : World), (callFunc 120 args).run Try.prog w = .ok (.enter 120 args) w := fun args w => run_callFunc Try.func120 (by kernel_rfl) rfl args w
theorem cf_moves : ∀ args (w : World), (callFunc 122 args).run Try.prog w = .ok (.enter 122 args) w := fun args w => run_callFunc Try.func122 (by kernel_rfl) rfl args w
theorem cf_after : ∀ args (w : World), (callFunc 118 args).run Try.prog w = .ok (.enter 118 args) w := fun args w => run_callFunc Try.func118 (by kernel_rfl) rfl args w
theorem cf_out : ∀ args (w : World), (callFunc 123 args).run Try.prog w = .ok (.enter 123 args) w := fun args w => run_callFunc Try.func123 (by kernel_rfl) rfl args w
theorem SrW.put {w0 w w' : World} {ao ra : Option Addr} {no co S0 rc m : Nat} {L L' : List (List UInt8)} {ms : List Int} (h : SrW w0 w ao no co S0 L ra rc m ms) (hmp : BMap w' (S0 + 1) L') (hg : w.grownBy w' (some (S0 + 1))) : SrW w0 w' ao no co S0 L' ra rc m ms := by
  have ht := h.top
  have hs := hg.size
  have h0 := h.s0
  have oth : ∀ k, k < w.heap.size → k ≠ S0 + 1 → w'.heap[k]? = w.heap[k]? := fun k hk hne => hg.block k hk (fun e => hne (Option.some.inj e))
  refine ⟨Proofs.Ytbncmeggnhggkaa.Below.keeps (S := fun k => some (S0 + 1) = some k) h.below (Keeps.of_grown hg fun k hk => hk) h.below.size (fun k e => by have := Option.some.inj e; omega), h.s0, by omega, (oth _ (by omega) (by omega)).trans h.c0, hmp, (oth _ (by omega) (by omega)).trans h.c2, (oth _ (by omega) (by omega)).trans h.c4, (oth _ (by omega) (by omega)).trans h.c5, own_kept h.row hg (fun b hb e => ?_), h.rb⟩
  have := Option.some.inj e
  rcases h.rb b hb with h1 | h1 <;> omega
theorem moves3_done {p : Prg} {s : St} (h : done3 p s = true) : moves3 p s = [] := by
  unfold moves3
  unfold done3 at h
  rw [List.all_eq_true] at h
  rw [List.filter_eq_nil_iff.2 fun t ht => by have := h t ht; simpa using this]
  rfl
theorem GrowF.mono {p : Prg} {L L' : List (List UInt8)} {n m : Nat} (h : GrowF p L L' n) (hm : n ≤ m) : GrowF p L L' m := fun l hl => (h l hl).imp id fun ⟨s, h1, h2, h3⟩ => ⟨s, h1, by omega, h3⟩
set_option maxRecDepth 100000 in
set_option maxHeartbeats 3200000 in
theorem from_c (w0 : World) (a : Option Addr) (cap : Nat) (p : Prg) (o : List Int) (ao : Option Addr) (no co S0 : Nat) (hp : RdP w0 a p) (ho : Rd w0 ao (ints o)) (hno : no = o.length) (hv : progValid p = true) (hol : o.length = p.length * 3 + 3) : ∀ n, FromC w0 a cap p o ao no co S0 n := by
  intro n
  induction n using Nat.strongRecOn with
  | ind n ih =>
  intro w b s L ra rc m ms hn hg hm hmb hW hA hF
  have hsh := (valid_of hv).toShape
  have HKEY := hid (fun w (h : MAt 94 [] w b p s) => seqKey_c w b p s h.v hsh)
  have HDN := hid (fun w (h : MAt 94 [] w b p s) => seqDone_c w b p s h.v hsh)
  have HOUT := hid (fun w (h : MAt 94 [] w b p s) => outcome_c w b p s h.v hsh)
  have HMV := hid (fun w (h : MAt 94 [] w b p s) => seqMoves_c w b p s h.v hsh)
  have HEQ := hid (fun w a a' c c' xs ys h h' hl hl' => equal_c w a a' c c' xs ys h h' hl hl')
  unfold FromC at ih
  have HIH := hid ih
  have HRP := hid (fun w (h : Below w0.heap.size w0 w) => hp.below h)
  have HRO := hid (fun w (h : Below w0.heap.size w0 w) => ho.below h)
  have HG := hid hg
  have HSH := hid hsh
  have HFK := hid hF
  have HLN := hid hn
  have HM := hid hm
  have HKS := hid (keyL_size (hg.toGood.vlen hsh))
  have HNO := hid hno
  have HOL0 := hid hol
  have hol9 : no ≤ 12 := by have := hsh.len; omega
  have HLK := hid (fun w (h : BMap w (S0 + 1) L) => run_lookB h (strOfNums (keyV s)) HKS.out)
  have k1 := mth_key b
  have k2 := mth_done b
  have k3 := mth_moves b
  have k4 := mth_after b
  have k5 := mth_out b
  have l1 := cf_key
  have l2 := cf_done
  have l3 := cf_moves
  have l4 := cf_after
  have l5 := cf_out
  have HW := hid hW
  have HA := hid hA
  obtain ⟨FL, hFL⟩ : ∃ FL, FL = decide ((strOfNums (keyV s)).data.toList ∈ L) := ⟨_, rfl⟩
  rw [← hFL] at HLK
  have HFL := hid hFL
  clear hFL hp ho hno hv hol hsh hn hg hm hW hA hF ih
  go_enter Try.func87, Try.ntmps87
  go_wp2_with fail
  refine (HKEY.out w (HA.out.mat (HRP.out _ HW.out.below) HG.out.toGood)).mono ?_
  rintro e w1 ⟨rfl, hb1⟩
  have HW1 := hid (HW.out.step hb1)
  have HA1 := hid (HA.out.below hb1)
  have hlk := HLK.out w1 HW1.out.mp
  have c2 := cell_of_row w1 (S0 + 2) 0 _ _ _ HW1.out.c2
  have HBW := hid hb1
  clear hb1
  cases FL
  · go_wp2_with fail
    clear hlk c2
    obtain ⟨D, hD⟩ : ∃ D, D = done3 p s := ⟨_, rfl⟩
    have HDD := hid hD
    have HD := hid (HDN.out)
    rw [← hD] at HD
    clear hD
    cases D
    · have x0 := cell_of_row w1 S0 0 _ _ _ HW1.out.c0
      have x0 : w1.cell? ⟨S0, 0, none⟩ = some (.slice ao no co) := x0
      refine wp_region_any (by kernel_rfl) ?_
      change wpAny _ _ _ _ _ _ _ (World.drew _)
      refine wpAny_take (i := 0) (v := ?_) rfl (by kernel_rfl) (by kernel_rfl) (by kernel_rfl) (fun _ _ _ h => h) (Or.inl ⟨rfl, ?_⟩) ?_
      rotate_left
      · intro w; go_simp; try with_reducible rfl
      refine wpAny_ready (rs := [1]) (by kernel_rfl) (by simp) ?_
      refine AllReady.cons rfl (fun K hK => ?_) AllReady.nil
      go_simp
      refine (HD.out _ ((HA1.out.below (below_drewN 1 (Below.refl _ _))).mat (HRP.out _ (HW1.out.step (below_drewN 1 (Below.refl _ _))).below) HG.out.toGood)).mono ?_
      rintro e w2 ⟨rfl, hb2⟩
      refine hK _ _ ?_
      clear hK K
      refine wpAny_take (i := 2) (v := ?_) rfl (by kernel_rfl) (by kernel_rfl) (by kernel_rfl) (fun _ _ _ h => h) (Or.inl ⟨rfl, ?_⟩) ?_
      rotate_left
      · intro w; go_simp; try with_reducible rfl
      refine wpAny_take (i := 3) (v := undef) rfl (by kernel_rfl) (by kernel_rfl) (by kernel_rfl) (fun _ _ _ h => h) (Or.inr ⟨rfl, rfl⟩) ?_
      refine wpAny_take (i := 5) (v := undef) rfl (by kernel_rfl) (by kernel_rfl) (by kernel_rfl) (fun _ _ _ h => h) (Or.inr ⟨rfl, rfl⟩) ?_
      refine wpAny_take (i := 4) (v := undef) rfl (by kernel_rfl) (by kernel_rfl) (by kernel_rfl) (fun _ _ _ h => h) (Or.inr ⟨rfl, rfl⟩) ?_
      refine wpAny_take (i := 6) (v := undef) rfl (by kernel_rfl) (by kernel_rfl) (by kernel_rfl) (fun _ _ _ h => h) (Or.inr ⟨rfl, rfl⟩) ?_
      refine wpAny_take (i := 7) (v := ?_) rfl (by kernel_rfl) (by kernel_rfl) (by kernel_rfl) (fun _ _ _ h => h) (Or.inl ⟨rfl, ?_⟩) ?_
      rotate_left
      · intro w; go_simp; try with_reducible rfl
      refine wpAny_done (by kernel_rfl) ?_ _
      have HB2 := hid (show Below w1.heap.size w1 w2 from (below_drewN 1 (Below.refl w1.heap.size w1)).trans hb2)
      clear hb2
      have HMV2 := hid (HMV.out w2 ((HA1.out.below HB2.out).mat (HRP.out _ (HW1.out.step HB2.out).below) HG.out.toGood))
      have HML := hid (moves3_len s HSH.out)
      obtain ⟨nm, hnm⟩ : ∃ nm, nm = (moves3 p s).length := ⟨_, rfl⟩
      have HNM := hid hnm
      clear x0 HDN HOUT HEQ HMV
      go_wp2_with fail
      refine HMV2.out.mono ?_
      rintro e w3 ⟨va, vc, rfl, hown3, hb3⟩
      have HB3 := hid (HB2.out.trans (hb3.mono HB2.out.size))
      have HLL := hid (show SrL w0 w w3 a cap p o ao no co S0 L L ra ra rc m ms n b s (va) 0 from
        ⟨HW1.out.step HB3.out, HA1.out.below HB3.out, ⟨Rd.own hown3, fun k hk => ⟨(own_blk hown3 k hk).2, fun e => by
          have h1 := (own_blk hown3 k hk).1
          have h2 := (HW1.out.step HB2.out).top
          have h3 := ((HA1.out.below HB2.out).lt)
          rcases e with e | e | e
          · omega
          · omega
          · have := (own_blk (HW1.out.step HB2.out).row k e).2; omega⟩⟩, HFK.out, GrowF.refl _ _ _, Keeps.of_below (HBW.out.trans (HB3.out.mono HBW.out.size)), fun j hj => .inl hj, fun i x hi => absurd hi (Nat.not_lt_zero _)⟩)
      clear hown3 hb3
      rw [← hnm]
      clear hnm
      go_wp2_with fail
      go_loopw [26, 9] (fun i _ wr => ∃ (k : Nat) (L2 : List (List UInt8)) (ra2 : Option Addr) (rc2 : Nat), k ≤ nm ∧ i = .int .i64 k ∧ Hid (SrL w0 w wr a cap p o ao no co S0 L L2 ra ra2 rc2 m ms n b s va k)) (fun i _ _ => nm - (intOf i).toNat)
      case atStart => exact ⟨0, L, ra, rc, Nat.zero_le _, rfl, HLL⟩
      case round =>
        clear HLL
        obtain ⟨k, L2, ra2, rc2, hk, rfl, HL⟩ := hrel
        by_cases hlt : k < nm
        · obtain ⟨x, hx⟩ : ∃ x, (moves3 p s)[k]? = some x := ⟨_, List.getElem?_eq_getElem (by rw [← HNM.out]; exact hlt)⟩
          obtain ⟨t, rfl, hgo⟩ := moves3_at hx
          obtain ⟨vb, vo, hva, hvl, hvc⟩ := HL.out.lv.rd.int k (by rw [← HNM.out]; exact hlt)
          subst hva
          rw [show (moves3 p s)[k]'(by rw [← HNM.out]; exact hlt) = (t : Int) from by
            have := List.getElem?_eq_getElem (l := moves3 p s) (i := k) (by rw [← HNM.out]; exact hlt)
            rw [hx] at this
            exact (Option.some.inj this).symm] at hvc
          have HX := hid hx
          have HGO := hid hgo
          have c4 : wr.cell? ⟨S0 + 4, 0, none⟩ = some (.slice ra2 m rc2) := cell_of_row wr (S0 + 4) 0 _ _ _ HL.out.sw.c4
          have hsr := HL.out.sw.top
          have f4 := frozen_of_row wr (S0 + 4) 0 _ _ HL.out.sw.c4
          clear hx hgo
          have HMB := hid hmb
          have hm9 : m ≤ 1000 := by omega
          have hnm9 : nm ≤ 1000 := by rw [HNM.out]; exact HML.out
          have HROW := hid (own_below HL.out.sw.row ((Below.refl wr.heap.size wr).alloc (Nat.le_refl _) (.cells #[.int .i64 (t : Int)] 3)))
          have HLIT := hid (Rd.own (own_one1 wr wr.heap.size (.int .i64 (t : Int)) 3 (Nat.le_refl _)))
          clear hmb
          go_wp2_with (at_builtin; refine wpList_append_rd rfl (.tmp 30) (.tmp 32) 23 rfl (S0 + 3) 3 (.int .i64 0) 1 8 Try.underlying23 Try.info_int rfl (by decide) _ m (ints ms) rfl HROW.out (some ⟨wr.heap.size, 0, none⟩) 1 1 (ints [(t : Int)]) rfl HLIT.out rfl (ints_one _ _) (by omega) (by decide) (by simp; omega) ?_)
          intro v5 w5 hown5 hgrow5 hat5
          obtain ⟨ra3, rc3, rfl, hab5⟩ := own_shape hown5
          rw [ownBlock_slice, ownBlock_slice] at hat5
          rw [ownBlock_slice] at hgrow5
          have hs5 := hgrow5.size
          have HN5 := hid (show ∀ j, blk ra3 = some j → blk ra2 = some j ∨ wr.heap.size ≤ j from fun j hj => by
            rcases hat5 with h | h
            · exact .inl (h ▸ hj)
            · rw [hj] at h; simp at h; exact .inr (by omega))
          have HK5 := hid (show Keeps (fun j => blk ra2 = some j) wr w5 from (Keeps.of_below ((Below.refl wr.heap.size wr).alloc (Nat.le_refl _) (.cells #[.int .i64 (t : Int)] 3))).trans (Keeps.of_grown hgrow5 fun k hk => hk))
          have HR5 := hid (HL.out.sw.rows (rc3 := rc3) (m' := m + 1) (ms' := ms ++ [(t : Int)]) HK5.out (own_cast hown5 rfl (by simp)) fun j hj => by
            rcases HN5.out j hj with h | h
            · exact HL.out.sw.rb j h
            · have := HL.out.sw.top; exact .inr (by omega))
          have hc45 : w5.heap[S0 + 4]? = some (.cells #[.slice ra2 m rc2] 23 (0, 0)) := (HK5.out.block _ (by omega) fun e => by rcases HL.out.sw.rb _ e with h | h <;> omega).trans HL.out.sw.c4
          have c45 := cell_of_row w5 (S0 + 4) 0 _ _ _ hc45
          have f45 := frozen_of_row w5 (S0 + 4) 0 _ _ hc45
          clear hown5 hgrow5 hat5 hab5 hs5 hc45 c4 f4 HROW HLIT
          go_wp2_with fail
          have HL6 := hid (HL.out.turn HR5.out.1 HL.out.fo (GrowF.refl _ _ _) HR5.out.2 HN5.out)
          obtain ⟨w6, hw6⟩ : ∃ w6, w6 = w5.setCell ⟨S0 + 4, 0, none⟩ (.slice ra3 (m + 1) rc3) := ⟨_, rfl⟩
          rw [← hw6] at HL6
          try rw [← hw6]
          clear hw6 HR5 HK5 HN5 c45 f45 HL
          have HAF := hid (fun w h1 h2 => seqAfterK_c w b a cap p s t h1 h2 HG.out.toGood HSH.out HGO.out)
          have HLE := hid (show left4 p (do3 p s t) < n by rw [← HLN.out]; exact left_do3 HG.out.toGood HSH.out HGO.out)
          have HG8 := hid (HG.out.step HSH.out HGO.out)
          refine wp_region_any (by kernel_rfl) ?_
          change wpAny _ _ _ _ _ _ _ (World.drew _)
          obtain ⟨w7, hw7⟩ : ∃ w7, w7 = w6.drew := ⟨_, rfl⟩
          have HL7 := hid (show SrL w0 w w7 a cap p o ao no co S0 L L2 ra ra3 rc3 (m + 1) (ms ++ [(t : Int)]) n b s (some ⟨vb, vo, none⟩) k from by rw [hw7]; exact HL6.out.step (below_drewN 1 (Below.refl _ _)))
          rw [← hw7]
          clear hw7 HL6
          refine wpAny_take (i := 1) (v := ?_) rfl (by kernel_rfl) (by kernel_rfl) (by kernel_rfl) (fun _ _ _ h => h) (Or.inl ⟨rfl, ?_⟩) ?_
          rotate_left
          · intro w; go_simp; try with_reducible rfl
          refine wpAny_take (i := 2) (v := ?_) rfl (by kernel_rfl) (by kernel_rfl) (by kernel_rfl) (fun _ _ _ h => h) (Or.inl ⟨rfl, ?_⟩) ?_
          rotate_left
          · intro w; go_simp; try with_reducible rfl
          refine wpAny_ready (rs := [0, 3]) (by kernel_rfl) (by simp) ?_
          refine AllReady.cons rfl (fun K hK => ?_) (AllReady.cons rfl (fun K hK => ?_) AllReady.nil)
          · have c5 : w7.cell? ⟨S0 + 5, 0, none⟩ = some (fromV S0) := cell_of_row w7 (S0 + 5) 0 _ _ _ HL7.out.sw.c5
            go_simp
            refine hK _ _ ?_
            clear hK K c5
            refine wpAny_ready (rs := [3]) (by kernel_rfl) (by simp) ?_
            refine AllReady.cons rfl (fun K hK => ?_) AllReady.nil
            go_simp
            refine (HAF.out w7 HL7.out.st.at_ (HRP.out _ HL7.out.sw.below)).mono ?_
            rintro e w8 ⟨rfl, ha8, hb8⟩
            have HL8 := hid (HL7.out.step hb8)
            obtain ⟨HS7, hHS7⟩ : ∃ HS7, HS7 = w7.heap.size := ⟨_, rfl⟩
            rw [← hHS7] at ha8 ⊢
            have HA8 := hid (show SqA w8 a cap p S0 ra3 HS7 (do3 p s t) from ⟨ha8, fun e => by
              have := HL7.out.sw.top
              rcases e with e | e | e
              · omega
              · omega
              · have := (own_blk HL7.out.sw.row _ e).2; omega⟩)
            clear ha8 hb8 hHS7
            refine hK _ _ ?_
            clear hK K
            refine wpAny_ready (rs := [4]) (by kernel_rfl) (by simp) ?_
            refine AllReady.cons rfl (fun K hK => ?_) AllReady.nil
            go_simp
            refine (HIH.out (left4 p (do3 p s t)) (HLE.out) w8 HS7 (do3 p s t) L2 ra3 rc3 (m + 1) (ms ++ [(t : Int)]) rfl HG8.out (by rw [List.length_append, HM.out]; rfl) (by have := HLE.out; have := HMB.out; have := HLN.out; omega) HL8.out.sw HA8.out HL8.out.fo).mono ?_
            rintro e w9 ⟨B, π, L9, ra9, rc9, m9, rfl, hres, hm9, hw9, hf9, hg9, hk9, hn9⟩
            have HRES := hid hres
            have HM9 := hid hm9
            have HL9 := hid (HL8.out.turn hw9 hf9 (hg9.mono HLE.out) hk9 hn9)
            clear hres hm9 hw9 hf9 hg9 hk9 hn9
            refine hK _ _ ?_
            clear hK K
            refine wpAny_done (by kernel_rfl) ?_ _
            cases B
            · have hbn : bestS p o (do3 p s t) = none := by
                rcases HRES.out with ⟨_, h⟩ | ⟨h, _⟩
                · cases h
                · exact h
              have hπ : π = [] := by
                rcases HRES.out with ⟨_, h⟩ | ⟨_, _, h⟩
                · cases h
                · exact h
              subst hπ
              have hm9' : m9 = m + 1 := by rw [HM9.out]; simp [HM.out]
              subst hm9'
              have HL9b := hid (show SrL w0 w w9 a cap p o ao no co S0 L L9 ra ra9 rc9 (m + 1) (ms ++ [(t : Int)]) n b s (some ⟨vb, vo, none⟩) (k + 1) from ((by simpa using HL9.out : SrL w0 w w9 a cap p o ao no co S0 L L9 ra ra9 rc9 (m + 1) (ms ++ [(t : Int)]) n b s (some ⟨vb, vo, none⟩) k)).next HX.out hbn)
              have c4 : w9.cell? ⟨S0 + 4, 0, none⟩ = some (.slice ra9 (m + 1) rc9) := cell_of_row w9 (S0 + 4) 0 _ _ _ HL9b.out.sw.c4
              have f4 := frozen_of_row w9 (S0 + 4) 0 _ _ HL9b.out.sw.c4
              have hcap : m + 1 ≤ rc9 := own_cap HL9b.out.sw.row
              have hm91 : m ≤ 1000 := by have := HMB.out; omega
              have hsr9 := HL9b.out.sw.top
              clear HL9 HL8 HL7 HRES HA8
              go_wp2_with fail
              go_roundw
              case rel =>
                have hrr := HL9b.out.sw.rows (rc3 := rc9) (m' := m) (ms' := ms) (ra3 := ra9) (Keeps.refl _ _) (own_pop (x := .int .i64 (t : Int)) (own_cast HL9b.out.sw.row rfl (by simp))) HL9b.out.sw.rb
                exact ⟨k + 1, L9, ra9, rc9, by omega, by go_num, hid (HL9b.out.turn hrr.1 HL9b.out.fo (GrowF.refl _ _ _) hrr.2 fun k hk => .inl hk)⟩
              case measure => simp [intOf]; omega
            · have hbs : bestS p o (do3 p s t) = some π := by
                rcases HRES.out with ⟨h, _⟩ | ⟨_, h, _⟩
                · exact h
                · cases h
              have HE := hid (show bestS p o s = some ((t : Int) :: π) by
                rw [bestS_moves HSH.out HG.out.toGood HDD.out.symm]
                refine findSome_at _ k _ HX.out (fun i y hi hy => by rw [HL9.out.no i y hi hy]; rfl) ?_
                rw [show ((t : Int)).toNat = t from rfl, hbs]; rfl)
              clear hbs
              go_wp2_with fail
              go_ret
              have HW9 : SrW w0 w9 ao no co S0 L9 ra9 rc9 m9 (ms ++ ((t : Int) :: π)) := by simpa using HL9.out.sw
              exact ⟨true, (t : Int) :: π, L9, ra9, rc9, m9, rfl, .inl ⟨HE.out, rfl⟩, by rw [HM9.out]; simp, HW9, HL9.out.fo, HL9.out.gr.mono (Nat.le_succ _), HL9.out.kp, HL9.out.nb⟩
          · go_simp
            refine (HAF.out w7 HL7.out.st.at_ (HRP.out _ HL7.out.sw.below)).mono ?_
            rintro e w8 ⟨rfl, ha8, hb8⟩
            have HL8 := hid (HL7.out.step hb8)
            obtain ⟨HS7, hHS7⟩ : ∃ HS7, HS7 = w7.heap.size := ⟨_, rfl⟩
            rw [← hHS7] at ha8 ⊢
            have HA8 := hid (show SqA w8 a cap p S0 ra3 HS7 (do3 p s t) from ⟨ha8, fun e => by
              have := HL7.out.sw.top
              rcases e with e | e | e
              · omega
              · omega
              · have := (own_blk HL7.out.sw.row _ e).2; omega⟩)
            clear ha8 hb8 hHS7
            refine hK _ _ ?_
            clear hK K
            refine wpAny_ready (rs := [0]) (by kernel_rfl) (by simp) ?_
            refine AllReady.cons rfl (fun K hK => ?_) AllReady.nil
            have c5 : w8.cell? ⟨S0 + 5, 0, none⟩ = some (fromV S0) := cell_of_row w8 (S0 + 5) 0 _ _ _ HL8.out.sw.c5
            go_simp
            refine hK _ _ ?_
            clear hK K c5
            refine wpAny_ready (rs := [4]) (by kernel_rfl) (by simp) ?_
            refine AllReady.cons rfl (fun K hK => ?_) AllReady.nil
            go_simp
            refine (HIH.out (left4 p (do3 p s t)) (HLE.out) w8 HS7 (do3 p s t) L2 ra3 rc3 (m + 1) (ms ++ [(t : Int)]) rfl HG8.out (by rw [List.length_append, HM.out]; rfl) (by have := HLE.out; have := HMB.out; have := HLN.out; omega) HL8.out.sw HA8.out HL8.out.fo).mono ?_
            rintro e w9 ⟨B, π, L9, ra9, rc9, m9, rfl, hres, hm9, hw9, hf9, hg9, hk9, hn9⟩
            have HRES := hid hres
            have HM9 := hid hm9
            have HL9 := hid (HL8.out.turn hw9 hf9 (hg9.mono HLE.out) hk9 hn9)
            clear hres hm9 hw9 hf9 hg9 hk9 hn9
            refine hK _ _ ?_
            clear hK K
            refine wpAny_done (by kernel_rfl) ?_ _
            cases B
            · have hbn : bestS p o (do3 p s t) = none := by
                rcases HRES.out with ⟨_, h⟩ | ⟨h, _⟩
                · cases h
                · exact h
              have hπ : π = [] := by
                rcases HRES.out with ⟨_, h⟩ | ⟨_, _, h⟩
                · cases h
                · exact h
              subst hπ
              have hm9' : m9 = m + 1 := by rw [HM9.out]; simp [HM.out]
              subst hm9'
              have HL9b := hid (show SrL w0 w w9 a cap p o ao no co S0 L L9 ra ra9 rc9 (m + 1) (ms ++ [(t : Int)]) n b s (some ⟨vb, vo, none⟩) (k + 1) from ((by simpa using HL9.out : SrL w0 w w9 a cap p o ao no co S0 L L9 ra ra9 rc9 (m + 1) (ms ++ [(t : Int)]) n b s (some ⟨vb, vo, none⟩) k)).next HX.out hbn)
              have c4 : w9.cell? ⟨S0 + 4, 0, none⟩ = some (.slice ra9 (m + 1) rc9) := cell_of_row w9 (S0 + 4) 0 _ _ _ HL9b.out.sw.c4
              have f4 := frozen_of_row w9 (S0 + 4) 0 _ _ HL9b.out.sw.c4
              have hcap : m + 1 ≤ rc9 := own_cap HL9b.out.sw.row
              have hm91 : m ≤ 1000 := by have := HMB.out; omega
              have hsr9 := HL9b.out.sw.top
              clear HL9 HL8 HL7 HRES HA8
              go_wp2_with fail
              go_roundw
              case rel =>
                have hrr := HL9b.out.sw.rows (rc3 := rc9) (m' := m) (ms' := ms) (ra3 := ra9) (Keeps.refl _ _) (own_pop (x := .int .i64 (t : Int)) (own_cast HL9b.out.sw.row rfl (by simp))) HL9b.out.sw.rb
                exact ⟨k + 1, L9, ra9, rc9, by omega, by go_num, hid (HL9b.out.turn hrr.1 HL9b.out.fo (GrowF.refl _ _ _) hrr.2 fun k hk => .inl hk)⟩
              case measure => simp [intOf]; omega
            · have hbs : bestS p o (do3 p s t) = some π := by
                rcases HRES.out with ⟨h, _⟩ | ⟨_, h, _⟩
                · exact h
                · cases h
              have HE := hid (show bestS p o s = some ((t : Int) :: π) by
                rw [bestS_moves HSH.out HG.out.toGood HDD.out.symm]
                refine findSome_at _ k _ HX.out (fun i y hi hy => by rw [HL9.out.no i y hi hy]; rfl) ?_
                rw [show ((t : Int)).toNat = t from rfl, hbs]; rfl)
              clear hbs
              go_wp2_with fail
              go_ret
              have HW9 : SrW w0 w9 ao no co S0 L9 ra9 rc9 m9 (ms ++ ((t : Int) :: π)) := by simpa using HL9.out.sw
              exact ⟨true, (t : Int) :: π, L9, ra9, rc9, m9, rfl, .inl ⟨HE.out, rfl⟩, by rw [HM9.out]; simp, HW9, HL9.out.fo, HL9.out.gr.mono (Nat.le_succ _), HL9.out.kp, HL9.out.nb⟩
        · have HE := hid (show bestS p o s = none by
            rw [bestS_moves HSH.out HG.out.toGood HDD.out.symm]
            exact findSome_no _ fun i y hy => by
              rw [HL.out.no i y (by have := (List.getElem?_eq_some_iff.1 hy).1; have := HNM.out; omega) hy]; rfl)
          obtain ⟨w6, hput, hmp6, hg6⟩ := run_putB HL.out.sw.mp (strOfNums (keyV s)) HKS.out (HL.out.fo.len HSH.out)
          have HW6 := hid (HL.out.sw.put hmp6 hg6)
          have HK6 := hid (keeps_trans1 (S2 := fun j => j = S0 + 1) HL.out.kp (Keeps.of_grown hg6 (fun k hk => (Option.some.inj hk).symm)) (fun j _ e => .inl e))
          have c2 := cell_of_row wr (S0 + 2) 0 _ _ _ HL.out.sw.c2
          have c2 : wr.cell? ⟨S0 + 2, 0, none⟩ = some (.map (some (S0 + 1))) := c2
          have HNF := hid (show keyL s ∉ L from fun hm => by
            have := HFL.out
            rw [show decide ((strOfNums (keyV s)).data.toList ∈ L) = true from decide_eq_true hm] at this
            cases this)
          clear hmp6 hg6
          go_wp2_with fail
          go_ret
          exact ⟨false, [], L2 ++ [keyL s], ra2, rc2, m, rfl, .inr ⟨HE.out, rfl, rfl⟩, by rw [List.append_nil]; exact HM.out, by rw [List.append_nil]; exact HW6.out, HL.out.fo.put HSH.out HG.out HNF.out (by rw [HLN.out]; exact HL.out.gr) HE.out, (HL.out.gr.mono (Nat.le_succ _)).put HG.out (by rw [HLN.out]; omega), HK6.out, HL.out.nb⟩
    · have hc0 := fun w' (hb : Below w1.heap.size w1 w') => (show w'.cell? ⟨S0, 0, none⟩ = some (.slice ao no co) from cell_of_row w' S0 0 _ _ _ (HW1.out.step hb).c0)
      have HC0 := hid hc0
      have HOL := hid (show (out3 s).length = o.length from by unfold out3; rw [List.length_append, HG.out.regl, HG.out.meml, HOL0.out])
      clear hc0
      refine wp_region_any (by kernel_rfl) ?_
      change wpAny _ _ _ _ _ _ _ (World.drew _)
      refine wpAny_take (i := 0) (v := ?_) rfl (by kernel_rfl) (by kernel_rfl) (by kernel_rfl) (fun _ _ _ h => h) (Or.inl ⟨rfl, ?_⟩) ?_
      rotate_left
      · intro w; go_simp; try with_reducible rfl
      refine wpAny_ready (rs := [1]) (by kernel_rfl) (by simp) ?_
      refine AllReady.cons rfl (fun K hK => ?_) AllReady.nil
      go_simp
      refine (HD.out _ ((HA1.out.below (below_drewN 1 (Below.refl _ _))).mat (HRP.out _ (HW1.out.step (below_drewN 1 (Below.refl _ _))).below) HG.out.toGood)).mono ?_
      rintro e w2 ⟨rfl, hb2⟩
      have HB2 := hid (show Below w1.heap.size w1 w2 from (below_drewN 1 (Below.refl w1.heap.size w1)).trans hb2)
      clear hb2
      refine hK _ _ ?_
      clear hK K
      refine wpAny_take (i := 2) (v := ?_) rfl (by kernel_rfl) (by kernel_rfl) (by kernel_rfl) (fun _ _ _ h => h) (Or.inl ⟨rfl, ?_⟩) ?_
      rotate_left
      · intro w; go_simp; try with_reducible rfl
      refine wpAny_take (i := 3) (v := ?_) rfl (by kernel_rfl) (by kernel_rfl) (by kernel_rfl) (fun _ _ _ h => h) (Or.inl ⟨rfl, ?_⟩) ?_
      rotate_left
      · intro w; go_simp; try with_reducible rfl
      refine wpAny_ready (rs := [4, 5]) (by kernel_rfl) (by simp) ?_
      refine AllReady.cons rfl (fun K hK => ?_) (AllReady.cons rfl (fun K hK => ?_) AllReady.nil)
      · go_simp
        refine (HOUT.out _ ((HA1.out.below HB2.out).mat (HRP.out _ (HW1.out.step HB2.out).below) HG.out.toGood)).mono ?_
        rintro e w3 ⟨va, vc, rfl, hown3, hb3⟩
        refine hK _ _ ?_
        clear hK K
        refine wpAny_ready (rs := [5]) (by kernel_rfl) (by simp) ?_
        refine AllReady.cons rfl (fun K hK => ?_) AllReady.nil
        have c0 := HC0.out w3 (HB2.out.trans (hb3.mono HB2.out.size))
        go_simp
        refine hK _ _ ?_
        clear hK K
        have HB3 := hid (show Below w1.heap.size w1 w3 from HB2.out.trans (hb3.mono HB2.out.size))
        have HEQ3 := hid (HEQ.out w3 va ao vc co (out3 s) o (Rd.own hown3) (HRO.out _ (HW1.out.step HB3.out).below) (by rw [HOL.out, ← HNO.out]; omega) (by rw [← HNO.out]; omega))
        rw [HOL.out, ← HNO.out] at HEQ3
        clear hown3 hb3
        refine wpAny_ready (rs := [6]) (by kernel_rfl) (by simp) ?_
        refine AllReady.cons rfl (fun K hK => ?_) AllReady.nil
        go_simp
        rw [HOL.out, ← HNO.out]
        refine HEQ3.out.mono ?_
        rintro e w4 ⟨rfl, hb4⟩
        have HB4 := hid (HB3.out.trans (hb4.mono HB3.out.size))
        clear hb4
        refine hK _ _ ?_
        clear hK K
        refine wpAny_take (i := 7) (v := ?_) rfl (by kernel_rfl) (by kernel_rfl) (by kernel_rfl) (fun _ _ _ h => h) (Or.inl ⟨rfl, ?_⟩) ?_
        rotate_left
        · intro w; go_simp; try with_reducible rfl
        refine wpAny_done (by kernel_rfl) ?_ _
        by_cases heq : out3 s = o
        · have hd : decide (out3 s = o) = true := decide_eq_true heq
          have HE := hid (show bestS p o s = some [] by rw [bestS_done HDD.out.symm, if_pos heq])
          rw [hd]
          go_wp2_with fail
          go_ret
          exact ⟨true, [], L, ra, rc, m, rfl, .inl ⟨HE.out, rfl⟩, by rw [List.append_nil]; exact HM.out, by rw [List.append_nil]; exact HW1.out.step HB4.out, HFK.out, GrowF.refl _ _ _, Keeps.of_below (HBW.out.trans (HB4.out.mono HBW.out.size)), fun k hk => .inl hk⟩
        · have hd : decide (out3 s = o) = false := decide_eq_false heq
          have HE := hid (show bestS p o s = none by rw [bestS_done HDD.out.symm, if_neg heq])
          rw [hd]
          have HMV4 := hid (HMV.out w4 ((HA1.out.below HB4.out).mat (HRP.out _ (HW1.out.step HB4.out).below) HG.out.toGood))
          rw [moves3_done HDD.out.symm] at HMV4
          go_wp2_with fail
          refine HMV4.out.mono ?_
          rintro e w5 ⟨vb, vd, rfl, _, hb5⟩
          have HB5 := hid (HB4.out.trans (hb5.mono HB4.out.size))
          have HW5 := hid (HW1.out.step HB5.out)
          obtain ⟨w6, hput, hmp6, hg6⟩ := run_putB HW5.out.mp (strOfNums (keyV s)) HKS.out (HFK.out.len HSH.out)
          have HW6 := hid (HW5.out.put hmp6 hg6)
          have HK6 := hid (show Keeps (SrS S0 ra) w w6 from (Keeps.of_below (HBW.out.trans (HB5.out.mono HBW.out.size))).trans (Keeps.of_grown hg6 (fun k hk => .inl (Option.some.inj hk).symm)))
          have c2 := cell_of_row w5 (S0 + 2) 0 _ _ _ HW5.out.c2
          have c2 : w5.cell? ⟨S0 + 2, 0, none⟩ = some (.map (some (S0 + 1))) := c2
          have HNF := hid (show keyL s ∉ L from fun hm => by
            have := HFL.out
            rw [show decide ((strOfNums (keyV s)).data.toList ∈ L) = true from decide_eq_true hm] at this
            cases this)
          clear hb5 hmp6 hg6
          go_wp2_with fail
          go_loop [26, 9] (fun i _ => i = .int .i64 0) (fun _ _ => 0)
          case atStart => rfl
          case round =>
            subst hrel
            go_wp2_with fail
            go_ret
            exact ⟨false, [], L ++ [keyL s], ra, rc, m, rfl, .inr ⟨HE.out, rfl, rfl⟩, by rw [List.append_nil]; exact HM.out, by rw [List.append_nil]; exact HW6.out, HFK.out.put HSH.out HG.out HNF.out (GrowF.refl _ _ _) HE.out, (GrowF.refl _ _ _).put HG.out (by rw [HLN.out]; omega), HK6.out, fun k hk => .inl hk⟩
      · have c0 := HC0.out w2 HB2.out
        go_simp
        refine hK _ _ ?_
        clear hK K
        refine wpAny_ready (rs := [4]) (by kernel_rfl) (by simp) ?_
        refine AllReady.cons rfl (fun K hK => ?_) AllReady.nil
        go_simp
        refine (HOUT.out _ ((HA1.out.below HB2.out).mat (HRP.out _ (HW1.out.step HB2.out).below) HG.out.toGood)).mono ?_
        rintro e w3 ⟨va, vc, rfl, hown3, hb3⟩
        refine hK _ _ ?_
        clear hK K
        have HB3 := hid (show Below w1.heap.size w1 w3 from HB2.out.trans (hb3.mono HB2.out.size))
        have HEQ3 := hid (HEQ.out w3 va ao vc co (out3 s) o (Rd.own hown3) (HRO.out _ (HW1.out.step HB3.out).below) (by rw [HOL.out, ← HNO.out]; omega) (by rw [← HNO.out]; omega))
        rw [HOL.out, ← HNO.out] at HEQ3
        clear hown3 hb3
        refine wpAny_ready (rs := [6]) (by kernel_rfl) (by simp) ?_
        refine AllReady.cons rfl (fun K hK => ?_) AllReady.nil
        go_simp
        rw [HOL.out, ← HNO.out]
        refine HEQ3.out.mono ?_
        rintro e w4 ⟨rfl, hb4⟩
        have HB4 := hid (HB3.out.trans (hb4.mono HB3.out.size))
        clear hb4
        refine hK _ _ ?_
        clear hK K
        refine wpAny_take (i := 7) (v := ?_) rfl (by kernel_rfl) (by kernel_rfl) (by kernel_rfl) (fun _ _ _ h => h) (Or.inl ⟨rfl, ?_⟩) ?_
        rotate_left
        · intro w; go_simp; try with_reducible rfl
        refine wpAny_done (by kernel_rfl) ?_ _
        by_cases heq : out3 s = o
        · have hd : decide (out3 s = o) = true := decide_eq_true heq
          have HE := hid (show bestS p o s = some [] by rw [bestS_done HDD.out.symm, if_pos heq])
          rw [hd]
          go_wp2_with fail
          go_ret
          exact ⟨true, [], L, ra, rc, m, rfl, .inl ⟨HE.out, rfl⟩, by rw [List.append_nil]; exact HM.out, by rw [List.append_nil]; exact HW1.out.step HB4.out, HFK.out, GrowF.refl _ _ _, Keeps.of_below (HBW.out.trans (HB4.out.mono HBW.out.size)), fun k hk => .inl hk⟩
        · have hd : decide (out3 s = o) = false := decide_eq_false heq
          have HE := hid (show bestS p o s = none by rw [bestS_done HDD.out.symm, if_neg heq])
          rw [hd]
          have HMV4 := hid (HMV.out w4 ((HA1.out.below HB4.out).mat (HRP.out _ (HW1.out.step HB4.out).below) HG.out.toGood))
          rw [moves3_done HDD.out.symm] at HMV4
          go_wp2_with fail
          refine HMV4.out.mono ?_
          rintro e w5 ⟨vb, vd, rfl, _, hb5⟩
          have HB5 := hid (HB4.out.trans (hb5.mono HB4.out.size))
          have HW5 := hid (HW1.out.step HB5.out)
          obtain ⟨w6, hput, hmp6, hg6⟩ := run_putB HW5.out.mp (strOfNums (keyV s)) HKS.out (HFK.out.len HSH.out)
          have HW6 := hid (HW5.out.put hmp6 hg6)
          have HK6 := hid (show Keeps (SrS S0 ra) w w6 from (Keeps.of_below (HBW.out.trans (HB5.out.mono HBW.out.size))).trans (Keeps.of_grown hg6 (fun k hk => .inl (Option.some.inj hk).symm)))
          have c2 := cell_of_row w5 (S0 + 2) 0 _ _ _ HW5.out.c2
          have c2 : w5.cell? ⟨S0 + 2, 0, none⟩ = some (.map (some (S0 + 1))) := c2
          have HNF := hid (show keyL s ∉ L from fun hm => by
            have := HFL.out
            rw [show decide ((strOfNums (keyV s)).data.toList ∈ L) = true from decide_eq_true hm] at this
            cases this)
          clear hb5 hmp6 hg6
          go_wp2_with fail
          go_loop [26, 9] (fun i _ => i = .int .i64 0) (fun _ _ => 0)
          case atStart => rfl
          case round =>
            subst hrel
            go_wp2_with fail
            go_ret
            exact ⟨false, [], L ++ [keyL s], ra, rc, m, rfl, .inr ⟨HE.out, rfl, rfl⟩, by rw [List.append_nil]; exact HM.out, by rw [List.append_nil]; exact HW6.out, HFK.out.put HSH.out HG.out HNF.out (GrowF.refl _ _ _) HE.out, (GrowF.refl _ _ _).put HG.out (by rw [HLN.out]; omega), HK6.out, fun k hk => .inl hk⟩
  · have HE := hid (show bestS p o s = none from HFK.out.no s HG.out (by
      have := HFL.out
      exact of_decide_eq_true this.symm))
    go_wp2_with fail
    go_ret
    exact ⟨false, [], L, ra, rc, m, rfl, .inr ⟨HE.out, rfl, rfl⟩, by rw [List.append_nil]; exact HM.out, by rw [List.append_nil]; exact HW1.out, HFK.out, GrowF.refl _ _ _, Keeps.of_below HBW.out, fun k hk => .inl hk⟩
end Go.Proofs.Ytbncmeggnhggkaa
