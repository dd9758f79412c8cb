/-
  PROVED HERE: what the closure of impl.search does, with store buffers. CONDITIONS: as each theorem states.
-/
import Derived.Test.YtbncmeggnhggkaaSrl
import Derived.Test.YtbncmeggnhggkaaSe4
import Derived.Test.YtbncmeggnhggkaaIbx
import Derived.Deep.RegionHeld3
namespace Go.Proofs.Ytbncmeggnhggkaa
open Go.RowKit
set_option linter.unusedVariables false
set_option linter.unusedSimpArgs false

/-- A state with store buffers at block b, beside what the search turns. -/
structure SqB (w : World) (a : Option Addr) (cap : Nat) (p : Prg) (split : Bool) (S0 : Nat) (ra : Option Addr) (b : Nat) (s : St) : Prop where
  x : BAtX w (SrS S0 ra) a cap b p split s
  p0 : p.length ≠ 0
section
variable {w w' : World} {ra ra' : Option Addr} {S0 b cap : Nat} {a : Option Addr} {p : Prg} {split : Bool} {s : St}
theorem SqB.lt (h : SqB w a cap p split S0 ra b s) : b < w.heap.size := h.x.lt
theorem SqB.below (h : SqB w a cap p split S0 ra b s) (hb : Below w.heap.size w w') : SqB w' a cap p split S0 ra b s := ⟨h.x.below h.p0 hb, h.p0⟩
theorem SqB.turn (h : SqB w a cap p split S0 ra b s) (hk : Keeps (SrS S0 ra) w w') (hr : ∀ k, blk ra' = some k → blk ra = some k ∨ w.heap.size ≤ k) : SqB w' a cap p split S0 ra' b s :=
  ⟨h.x.turn h.p0 hk fun k e => by
    rcases e with e | e | e
    · exact .inl (.inl e)
    · exact .inl (.inr (.inl e))
    · rcases hr k e with h1 | h1
      · exact .inl (.inr (.inr h1))
      · exact .inr h1, h.p0⟩
theorem SqB.mat (h : SqB w a cap p split S0 ra b s) (hp : RdP w a p) (hg : Good p s) : BAt w b p split s := h.x.mat hp
end
theorem moves4_at {p : Prg} {split : Bool} {s : St} {k : Nat} {x : Int} (h : (moves4 p s split)[k]? = some x) : ∃ t : Nat, x = (t : Int) ∧ t < p.length + s.buf.length ∧ can4 p s split t = true :=
  (mem_moves4 x).1 (List.mem_of_getElem? h)
theorem moves4_end {p : Prg} {split : Bool} {s : St} (h : done4 p s = true) : moves4 p s split = [] := by
  unfold done4 at h
  rw [Bool.and_eq_true, List.all_eq_true] at h
  obtain ⟨hb, hd⟩ := h
  unfold done3 at hd
  rw [List.all_eq_true] at hd
  unfold moves4
  rw [List.filter_eq_nil_iff.2 fun t ht => ?_]
  · rfl
  · have ht := List.mem_range.1 ht
    unfold can4
    split
    · rename_i hlt
      have := hd t (List.mem_range.2 hlt)
      unfold ready4
      simp only [Bool.not_eq_true'] at this
      rw [this]
      simp
    · rename_i hlt
      have := hb _ (List.mem_of_getElem? (row4_get (s := s) (b := t - p.length) (by omega)))
      simp [this]
/-- What the closure leaves. -/
def FromPost4 (w0 w : World) (p : Prg) (split : Bool) (o : List Int) (ao : Option Addr) (no co S0 : Nat) (L : List (List UInt8)) (ra : Option Addr) (ms : List Int) (s : St) (n : Nat) (e : Ending) (w' : World) : Prop :=
  ∃ (B : Bool) (π : List Int) (L' : List (List UInt8)) (ra' : Option Addr) (rc' m' : Nat), e = .returned (.bool B) ∧ ((bestM p split o s = some π ∧ B = true) ∨ (bestM p split o s = none ∧ B = false ∧ π = [])) ∧ m' = (ms ++ π).length ∧ SrW w0 w' ao no co S0 L' ra' rc' m' (ms ++ π) ∧ FailOk4 p split o L' ∧ GrowF4 p split L L' (n + 1) ∧
    Keeps (SrS S0 ra) w w' ∧ ∀ k, blk ra' = some k → blk ra = some k ∨ w.heap.size ≤ k
def FromC4 (w0 : World) (a : Option Addr) (cap : Nat) (p : Prg) (split : Bool) (o : List Int) (ao : Option Addr) (no co S0 n : Nat) : Prop :=
  ∀ (w : World) (b : Nat) (s : St) (L : List (List UInt8)) (ra : Option Addr) (rc m : Nat) (ms : List Int), left4 p s = n → R4 p split s → m = ms.length → m + left4 p s ≤ 1000 → SrW w0 w ao no co S0 L ra rc m ms → SqB w a cap p split S0 ra b s → FailOk4 p split o L →
    Calls Try.prog 87 #[.iface 100 (.pointer (some ⟨b, 0, none⟩)), .pointer (some ⟨S0 + 2, 0, none⟩), .pointer (some ⟨S0, 0, none⟩), .pointer (some ⟨S0 + 4, 0, none⟩), .pointer (some ⟨S0 + 5, 0, none⟩)] w (FromPost4 w0 w p split o ao no co S0 L ra ms s n)
section
variable {w0 w wr w' : World} {ao ra ra2 ra3 va : Option Addr} {no co S0 rc rc2 rc3 m m' b cap n k : Nat} {L L2 L3 : List (List UInt8)} {ms ms' : List Int} {a : Option Addr} {p : Prg} {split : Bool} {s : St} {o : List Int}
/-- What the closure holds while it goes through the moves. -/
structure SrL4 (w0 w wr : World) (a : Option Addr) (cap : Nat) (p : Prg) (split : Bool) (o : List Int) (ao : Option Addr) (no co S0 : Nat) (L L2 : List (List UInt8)) (ra ra2 : Option Addr) (rc2 m : Nat) (ms : List Int) (n b : Nat) (s : St) (va : Option Addr) (k : Nat) : Prop where
  sw : SrW w0 wr ao no co S0 L2 ra2 rc2 m ms
  st : SqB wr a cap p split S0 ra2 b s
  lv : LvA wr S0 ra2 va (moves4 p s split)
  fo : FailOk4 p split o L2
  gr : GrowF4 p split L L2 n
  kp : Keeps (SrS S0 ra) w wr
  nb : ∀ j, blk ra2 = some j → blk ra = some j ∨ w.heap.size ≤ j
  no : ∀ i x, i < k → (moves4 p s split)[i]? = some x → bestM p split o (do4 p s split x.toNat) = none
theorem SrL4.turn (h : SrL4 w0 w wr a cap p split o ao no co S0 L L2 ra ra2 rc2 m ms n b s va k) (hw : SrW w0 w' ao no co S0 L3 ra3 rc3 m' ms') (hf : FailOk4 p split o L3) (hg : GrowF4 p split L2 L3 n) (hk : Keeps (SrS S0 ra2) wr w') (hr : ∀ k, blk ra3 = some k → blk ra2 = some k ∨ wr.heap.size ≤ k) :
    SrL4 w0 w w' a cap p split o ao no co S0 L L3 ra ra3 rc3 m' ms' n b s va k := by
  refine ⟨hw, h.st.turn hk hr, h.lv.turn hk hr, hf, h.gr.trans hg (Nat.le_refl _), keeps_trans1 h.kp hk fun j hj e => ?_, fun j hj => ?_, h.no⟩
  · rcases e with e | e | e
    · exact .inl e
    · exact .inr (.inl e)
    · rcases h.nb j e with h1 | h1
      · exact .inr (.inr h1)
      · omega
  · rcases hr j hj with h1 | h1
    · exact h.nb j h1
    · exact .inr (Nat.le_trans h.kp.size h1)
theorem SrL4.step (h : SrL4 w0 w wr a cap p split o ao no co S0 L L2 ra ra2 rc2 m ms n b s va k) (hb : Below wr.heap.size wr w') : SrL4 w0 w w' a cap p split o ao no co S0 L L2 ra ra2 rc2 m ms n b s va k :=
  h.turn (h.sw.step hb) h.fo (GrowF4.refl _ _ _ _) (Keeps.of_below hb) fun k hk => .inl hk
theorem SrL4.next (h : SrL4 w0 w wr a cap p split o ao no co S0 L L2 ra ra2 rc2 m ms n b s va k) {x : Int} (hx : (moves4 p s split)[k]? = some x) (hb : bestM p split o (do4 p s split x.toNat) = none) : SrL4 w0 w wr a cap p split o ao no co S0 L L2 ra ra2 rc2 m ms n b s va (k + 1) := by
  refine ⟨h.sw, h.st, h.lv, h.fo, h.gr, h.kp, h.nb, fun i y hi hy => ?_⟩
  by_cases he : i = k
  · subst he
    rw [hx] at hy
    cases hy
    exact hb
  · exact h.no i y (by omega) hy
end
theorem mtb_key (b : Nat) (w : World) : (method 305 100 (.pointer (some ⟨b, 0, none⟩)) "loop.example/weakmemory/impl.key").run Try.prog w = .ok (129, .pointer (some ⟨b, 0, none⟩)) w := by kernel_rfl
theorem mtb_done (b : Nat) (w : World) : (method 305 100 (.pointer (some ⟨b, 0, none⟩)) "loop.example/weakmemory/impl.done").run Try.prog w = .ok (128, .pointer (some ⟨b, 0, none⟩)) w := by kernel_rfl
theorem mtb_moves (b : Nat) (w : World) : (method 305 100 (.pointer (some ⟨b, 0, none⟩)) "loop.example/weakmemory/impl.moves").run Try.prog w = .ok (130, .pointer (some ⟨b, 0, none⟩)) w := by kernel_rfl
theorem mtb_after (b : Nat) (w : World) : (method 305 100 (.pointer (some ⟨b, 0, none⟩)) "loop.example/weakmemory/impl.after").run Try.prog w = .ok (127, .pointer (some ⟨b, 0, none⟩)) w := by kernel_rfl
theorem mtb_out (b : Nat) (w : World) : (method 305 100 (.pointer (some ⟨b, 0, none⟩)) "loop.example/weakmemory/impl.outcome").run Try.prog w = .ok (123, .pointer (some ⟨b, 0, none⟩)) w := by kernel_rfl
theorem cfb_key : ∀ args (w : World), (callFunc 129 args).run Try.prog w = .ok (.enter 129 args) w := fun args w => run_callFunc Try.func129 (by kernel_rfl) rfl args w
theorem cfb_done : ∀ args (w : World), (callFunc 128 args).run Try.prog w = .ok (.enter 128 args) w := fun args w => run_callFunc Try.func128 (by kernel_rfl) rfl args w
theorem cfb_moves : ∀ args (w : World), (callFunc 130 args).run Try.prog w = .ok (.enter 130 args) w := fun args w => run_callFunc Try.func130 (by kernel_rfl) rfl args w
theorem cfb_after : ∀ args (w : World), (callFunc 127 args).run Try.prog w = .ok (.enter 127 args) w := fun args w => run_callFunc Try.func127 (by kernel_rfl) rfl args w
theorem cfb_out : ∀ args (w : World), (callFunc 123 args).run Try.prog w = .ok (.enter 123 args) w := fun args w => run_callFunc Try.func123 (by kernel_rfl) rfl args w
theorem SrW.put4 {w0 w w' : World} {ao ra : Option Addr} {no co S0 rc m : Nat} {L L' : List (List UInt8)} {ms : List Int} (h : SrW w0 w ao no co S0 L ra rc m ms) (hmp : BMap w' (S0 + 1) L') (hg : w.grownBy w' (some (S0 + 1))) : SrW w0 w' ao no co S0 L' ra rc m ms := by
  have ht := h.top
  have hs := hg.size
  have h0 := h.s0
  have oth : ∀ k, k < w.heap.size → k ≠ S0 + 1 → w'.heap[k]? = w.heap[k]? := fun k hk hne => hg.block k hk (fun e => hne (Option.some.inj e))
  refine ⟨Proofs.Ytbncmeggnhggkaa.Below.keeps (S := fun k => some (S0 + 1) = some k) h.below (Keeps.of_grown hg fun k hk => hk) h.below.size (fun k e => by have := Option.some.inj e; omega), h.s0, by omega, (oth _ (by omega) (by omega)).trans h.c0, hmp, (oth _ (by omega) (by omega)).trans h.c2, (oth _ (by omega) (by omega)).trans h.c4, (oth _ (by omega) (by omega)).trans h.c5, own_kept h.row hg (fun b hb e => ?_), h.rb⟩
  have := Option.some.inj e
  rcases h.rb b hb with h1 | h1 <;> omega
theorem GrowF4.mono {p : Prg} {split : Bool} {L L' : List (List UInt8)} {n m : Nat} (h : GrowF4 p split L L' n) (hm : n ≤ m) : GrowF4 p split L L' m := fun l hl => (h l hl).imp id fun ⟨s, h1, h2, h3⟩ => ⟨s, h1, by omega, h3⟩
set_option maxRecDepth 100000 in
set_option maxHeartbeats 3200000 in
theorem from4_c (w0 : World) (a : Option Addr) (cap : Nat) (p : Prg) (split : Bool) (o : List Int) (ao : Option Addr) (no co S0 : Nat) (hp : RdP w0 a p) (ho : Rd w0 ao (ints o)) (hno : no = o.length) (hv : progValid p = true) (hol : o.length = p.length * 3 + 3) : ∀ n, FromC4 w0 a cap p split o ao no co S0 n := by
  intro n
  induction n using Nat.strongRecOn with
  | ind n ih =>
  intro w b s L ra rc m ms hn hg hm hmb hW hA hF
  have hsh := (valid_of hv).toShape
  have HKEY := hid (fun w (h : BAt w b p split s) => bufKey_c w b p split s h hsh)
  have HDN := hid (fun w (h : BAt w b p split s) => bufDone_c w b p split s h hsh)
  have HOUT := hid (fun w (h : BAt w b p split s) => outcome_c w b p s h.v hsh)
  have HMV := hid (fun w (h : BAt w b p split s) => bufMoves_c w b p split s h hsh)
  have HEQ := hid (fun w a a' c c' xs ys h h' hl hl' => equal_c w a a' c c' xs ys h h' hl hl')
  unfold FromC4 at ih
  have HIH := hid ih
  have HRP := hid (fun w (h : Below w0.heap.size w0 w) => hp.below h)
  have HRO := hid (fun w (h : Below w0.heap.size w0 w) => ho.below h)
  have HG := hid hg
  have HSH := hid hsh
  have HFK := hid hF
  have HLN := hid hn
  have HM := hid hm
  have HKS := hid (keyL4_size hg hsh)
  have HNO := hid hno
  have HOL0 := hid hol
  have hol9 : no ≤ 12 := by have := hsh.len; omega
  have HLK := hid (fun w (h : BMap w (S0 + 1) L) => run_lookB h (strOfNums (keyW s)) HKS.out)
  have k1 := mtb_key b
  have k2 := mtb_done b
  have k3 := mtb_moves b
  have k4 := mtb_after b
  have k5 := mtb_out b
  have l1 := cfb_key
  have l2 := cfb_done
  have l3 := cfb_moves
  have l4 := cfb_after
  have l5 := cfb_out
  have HW := hid hW
  have HA := hid hA
  obtain ⟨FL, hFL⟩ : ∃ FL, FL = decide ((strOfNums (keyW s)).data.toList ∈ L) := ⟨_, rfl⟩
  rw [← hFL] at HLK
  have HFL := hid hFL
  clear hFL hp ho hno hv hol hsh hn hg hm hW hA hF ih
  go_enter Try.func87, Try.ntmps87
  go_wp2_with fail
  refine (HKEY.out w (HA.out.mat (HRP.out _ HW.out.below) HG.out.toGood)).mono ?_
  rintro e w1 ⟨rfl, hb1⟩
  have HW1 := hid (HW.out.step hb1)
  have HA1 := hid (HA.out.below hb1)
  have hlk := HLK.out w1 HW1.out.mp
  have c2 := cell_of_row w1 (S0 + 2) 0 _ _ _ HW1.out.c2
  have HBW := hid hb1
  clear hb1
  cases FL
  · go_wp2_with fail
    clear hlk c2
    obtain ⟨D, hD⟩ : ∃ D, D = done4 p s := ⟨_, rfl⟩
    have HDD := hid hD
    have HD := hid (HDN.out)
    rw [← hD] at HD
    clear hD
    cases D
    · have x0 := cell_of_row w1 S0 0 _ _ _ HW1.out.c0
      have x0 : w1.cell? ⟨S0, 0, none⟩ = some (.slice ao no co) := x0
      refine wp_region_any (by kernel_rfl) ?_
      change wpAny _ _ _ _ _ _ _ (World.drew _)
      refine wpAny_take (i := 0) (v := ?_) rfl (by kernel_rfl) (by kernel_rfl) (by kernel_rfl) (fun _ _ _ h => h) (Or.inl ⟨rfl, ?_⟩) ?_
      rotate_left
      · intro w; go_simp; try with_reducible rfl
      refine wpAny_ready (rs := [1]) (by kernel_rfl) (by simp) ?_
      refine AllReady.cons rfl (fun K hK => ?_) AllReady.nil
      go_simp
      refine (HD.out _ ((HA1.out.below (below_drewN 1 (Below.refl _ _))).mat (HRP.out _ (HW1.out.step (below_drewN 1 (Below.refl _ _))).below) HG.out.toGood)).mono ?_
      rintro e w2 ⟨rfl, hb2⟩
      refine hK _ _ ?_
      clear hK K
      refine wpAny_take (i := 2) (v := ?_) rfl (by kernel_rfl) (by kernel_rfl) (by kernel_rfl) (fun _ _ _ h => h) (Or.inl ⟨rfl, ?_⟩) ?_
      rotate_left
      · intro w; go_simp; try with_reducible rfl
      refine wpAny_take (i := 3) (v := undef) rfl (by kernel_rfl) (by kernel_rfl) (by kernel_rfl) (fun _ _ _ h => h) (Or.inr ⟨rfl, rfl⟩) ?_
      refine wpAny_take (i := 5) (v := undef) rfl (by kernel_rfl) (by kernel_rfl) (by kernel_rfl) (fun _ _ _ h => h) (Or.inr ⟨rfl, rfl⟩) ?_
      refine wpAny_take (i := 4) (v := undef) rfl (by kernel_rfl) (by kernel_rfl) (by kernel_rfl) (fun _ _ _ h => h) (Or.inr ⟨rfl, rfl⟩) ?_
      refine wpAny_take (i := 6) (v := undef) rfl (by kernel_rfl) (by kernel_rfl) (by kernel_rfl) (fun _ _ _ h => h) (Or.inr ⟨rfl, rfl⟩) ?_
      refine wpAny_take (i := 7) (v := ?_) rfl (by kernel_rfl) (by kernel_rfl) (by kernel_rfl) (fun _ _ _ h => h) (Or.inl ⟨rfl, ?_⟩) ?_
      rotate_left
      · intro w; go_simp; try with_reducible rfl
      refine wpAny_done (by kernel_rfl) ?_ _
      have HB2 := hid (show Below w1.heap.size w1 w2 from (below_drewN 1 (Below.refl w1.heap.size w1)).trans hb2)
      clear hb2
      have HMV2 := hid (HMV.out w2 ((HA1.out.below HB2.out).mat (HRP.out _ (HW1.out.step HB2.out).below) HG.out.toGood))
      have HML := hid (Nat.le_trans (moves4_len HG.out.toGood4 HSH.out) (by decide : 12 ≤ 1000))
      obtain ⟨nm, hnm⟩ : ∃ nm, nm = (moves4 p s split).length := ⟨_, rfl⟩
      have HNM := hid hnm
      clear x0 HDN HOUT HEQ HMV
      go_wp2_with fail
      refine HMV2.out.mono ?_
      rintro e w3 ⟨va, vc, rfl, hown3, hb3⟩
      have HB3 := hid (HB2.out.trans (hb3.mono HB2.out.size))
      have HLL := hid (show SrL4 w0 w w3 a cap p split o ao no co S0 L L ra ra rc m ms n b s (va) 0 from
        ⟨HW1.out.step HB3.out, HA1.out.below HB3.out, ⟨Rd.own hown3, fun k hk => ⟨(own_blk hown3 k hk).2, fun e => by
          have h1 := (own_blk hown3 k hk).1
          have h2 := (HW1.out.step HB2.out).top
          have h3 := ((HA1.out.below HB2.out).lt)
          rcases e with e | e | e
          · omega
          · omega
          · have := (own_blk (HW1.out.step HB2.out).row k e).2; omega⟩⟩, HFK.out, GrowF4.refl _ _ _ _, Keeps.of_below (HBW.out.trans (HB3.out.mono HBW.out.size)), fun j hj => .inl hj, fun i x hi => absurd hi (Nat.not_lt_zero _)⟩)
      clear hown3 hb3
      rw [← hnm]
      clear hnm
      go_wp2_with fail
      go_loopw [26, 9] (fun i _ wr => ∃ (k : Nat) (L2 : List (List UInt8)) (ra2 : Option Addr) (rc2 : Nat), k ≤ nm ∧ i = .int .i64 k ∧ Hid (SrL4 w0 w wr a cap p split o ao no co S0 L L2 ra ra2 rc2 m ms n b s va k)) (fun i _ _ => nm - (intOf i).toNat)
      case atStart => exact ⟨0, L, ra, rc, Nat.zero_le _, rfl, HLL⟩
      case round =>
        clear HLL
        obtain ⟨k, L2, ra2, rc2, hk, rfl, HL⟩ := hrel
        by_cases hlt : k < nm
        · obtain ⟨x, hx⟩ : ∃ x, (moves4 p s split)[k]? = some x := ⟨_, List.getElem?_eq_getElem (by rw [← HNM.out]; exact hlt)⟩
          obtain ⟨t, rfl, hti, hgo⟩ := moves4_at hx
          have HTI := hid hti
          obtain ⟨vb, vo, hva, hvl, hvc⟩ := HL.out.lv.rd.int k (by rw [← HNM.out]; exact hlt)
          subst hva
          rw [show (moves4 p s split)[k]'(by rw [← HNM.out]; exact hlt) = (t : Int) from by
            have := List.getElem?_eq_getElem (l := moves4 p s split) (i := k) (by rw [← HNM.out]; exact hlt)
            rw [hx] at this
            exact (Option.some.inj this).symm] at hvc
          have HX := hid hx
          have HGO := hid hgo
          have c4 : wr.cell? ⟨S0 + 4, 0, none⟩ = some (.slice ra2 m rc2) := cell_of_row wr (S0 + 4) 0 _ _ _ HL.out.sw.c4
          have hsr := HL.out.sw.top
          have f4 := frozen_of_row wr (S0 + 4) 0 _ _ HL.out.sw.c4
          clear hx hgo hti
          have HMB := hid hmb
          have hm9 : m ≤ 1000 := by omega
          have hnm9 : nm ≤ 1000 := by rw [HNM.out]; exact HML.out
          have HROW := hid (own_below HL.out.sw.row ((Below.refl wr.heap.size wr).alloc (Nat.le_refl _) (.cells #[.int .i64 (t : Int)] 3)))
          have HLIT := hid (Rd.own (own_one1 wr wr.heap.size (.int .i64 (t : Int)) 3 (Nat.le_refl _)))
          clear hmb
          go_wp2_with (at_builtin; refine wpList_append_rd rfl (.tmp 30) (.tmp 32) 23 rfl (S0 + 3) 3 (.int .i64 0) 1 8 Try.underlying23 Try.info_int rfl (by decide) _ m (ints ms) rfl HROW.out (some ⟨wr.heap.size, 0, none⟩) 1 1 (ints [(t : Int)]) rfl HLIT.out rfl (ints_one _ _) (by omega) (by decide) (by simp; omega) ?_)
          intro v5 w5 hown5 hgrow5 hat5
          obtain ⟨ra3, rc3, rfl, hab5⟩ := own_shape hown5
          rw [ownBlock_slice, ownBlock_slice] at hat5
          rw [ownBlock_slice] at hgrow5
          have hs5 := hgrow5.size
          have HN5 := hid (show ∀ j, blk ra3 = some j → blk ra2 = some j ∨ wr.heap.size ≤ j from fun j hj => by
            rcases hat5 with h | h
            · exact .inl (h ▸ hj)
            · rw [hj] at h; simp at h; exact .inr (by omega))
          have HK5 := hid (show Keeps (fun j => blk ra2 = some j) wr w5 from (Keeps.of_below ((Below.refl wr.heap.size wr).alloc (Nat.le_refl _) (.cells #[.int .i64 (t : Int)] 3))).trans (Keeps.of_grown hgrow5 fun k hk => hk))
          have HR5 := hid (HL.out.sw.rows (rc3 := rc3) (m' := m + 1) (ms' := ms ++ [(t : Int)]) HK5.out (own_cast hown5 rfl (by simp)) fun j hj => by
            rcases HN5.out j hj with h | h
            · exact HL.out.sw.rb j h
            · have := HL.out.sw.top; exact .inr (by omega))
          have hc45 : w5.heap[S0 + 4]? = some (.cells #[.slice ra2 m rc2] 23 (0, 0)) := (HK5.out.block _ (by omega) fun e => by rcases HL.out.sw.rb _ e with h | h <;> omega).trans HL.out.sw.c4
          have c45 := cell_of_row w5 (S0 + 4) 0 _ _ _ hc45
          have f45 := frozen_of_row w5 (S0 + 4) 0 _ _ hc45
          clear hown5 hgrow5 hat5 hab5 hs5 hc45 c4 f4 HROW HLIT
          go_wp2_with fail
          have HL6 := hid (HL.out.turn HR5.out.1 HL.out.fo (GrowF4.refl _ _ _ _) HR5.out.2 HN5.out)
          obtain ⟨w6, hw6⟩ : ∃ w6, w6 = w5.setCell ⟨S0 + 4, 0, none⟩ (.slice ra3 (m + 1) rc3) := ⟨_, rfl⟩
          rw [← hw6] at HL6
          try rw [← hw6]
          clear hw6 HR5 HK5 HN5 c45 f45 HL
          have HAF := hid (fun w F h1 h2 h3 => bufAfterX_c w F a cap b p split s t h1 h2 h3 HSH.out HTI.out HGO.out)
          have HLE := hid (show left4 p (do4 p s split t) < n by rw [← HLN.out]; have := left_step HG.out.toGood4 HSH.out HTI.out HGO.out; omega)
          have HG8 := hid (HG.out.step HSH.out HTI.out HGO.out)
          refine wp_region_any (by kernel_rfl) ?_
          change wpAny _ _ _ _ _ _ _ (World.drew _)
          obtain ⟨w7, hw7⟩ : ∃ w7, w7 = w6.drew := ⟨_, rfl⟩
          have HL7 := hid (show SrL4 w0 w w7 a cap p split o ao no co S0 L L2 ra ra3 rc3 (m + 1) (ms ++ [(t : Int)]) n b s (some ⟨vb, vo, none⟩) k from by rw [hw7]; exact HL6.out.step (below_drewN 1 (Below.refl _ _)))
          rw [← hw7]
          clear hw7 HL6
          refine wpAny_take (i := 1) (v := ?_) rfl (by kernel_rfl) (by kernel_rfl) (by kernel_rfl) (fun _ _ _ h => h) (Or.inl ⟨rfl, ?_⟩) ?_
          rotate_left
          · intro w; go_simp; try with_reducible rfl
          refine wpAny_take (i := 2) (v := ?_) rfl (by kernel_rfl) (by kernel_rfl) (by kernel_rfl) (fun _ _ _ h => h) (Or.inl ⟨rfl, ?_⟩) ?_
          rotate_left
          · intro w; go_simp; try with_reducible rfl
          refine wpAny_ready (rs := [0, 3]) (by kernel_rfl) (by simp) ?_
          refine AllReady.cons rfl (fun K hK => ?_) (AllReady.cons rfl (fun K hK => ?_) AllReady.nil)
          · have c5 : w7.cell? ⟨S0 + 5, 0, none⟩ = some (fromV S0) := cell_of_row w7 (S0 + 5) 0 _ _ _ HL7.out.sw.c5
            go_simp
            refine hK _ _ ?_
            clear hK K c5
            refine wpAny_ready (rs := [3]) (by kernel_rfl) (by simp) ?_
            refine AllReady.cons rfl (fun K hK => ?_) AllReady.nil
            go_simp
            refine (HAF.out w7 (SrS S0 ra3) (HRP.out _ HL7.out.sw.below) HL7.out.st.x (fun k e => by
              have := HL7.out.sw.top
              rcases e with e | e | e
              · omega
              · omega
              · exact (own_blk HL7.out.sw.row _ e).2)).mono ?_
            rintro e w8 ⟨HS7, rfl, ha8, hb8⟩
            have HL8 := hid (HL7.out.step hb8)
            have HA8 := hid (show SqB w8 a cap p split S0 ra3 HS7 (do4 p s split t) from ⟨ha8, HL7.out.st.p0⟩)
            clear ha8 hb8
            refine hK _ _ ?_
            clear hK K
            refine wpAny_ready (rs := [4]) (by kernel_rfl) (by simp) ?_
            refine AllReady.cons rfl (fun K hK => ?_) AllReady.nil
            go_simp
            refine (HIH.out (left4 p (do4 p s split t)) (HLE.out) w8 HS7 (do4 p s split t) L2 ra3 rc3 (m + 1) (ms ++ [(t : Int)]) rfl HG8.out (by rw [List.length_append, HM.out]; rfl) (by have := HLE.out; have := HMB.out; have := HLN.out; omega) HL8.out.sw HA8.out HL8.out.fo).mono ?_
            rintro e w9 ⟨B, π, L9, ra9, rc9, m9, rfl, hres, hm9, hw9, hf9, hg9, hk9, hn9⟩
            have HRES := hid hres
            have HM9 := hid hm9
            have HL9 := hid (HL8.out.turn hw9 hf9 (hg9.mono HLE.out) hk9 hn9)
            clear hres hm9 hw9 hf9 hg9 hk9 hn9
            refine hK _ _ ?_
            clear hK K
            refine wpAny_done (by kernel_rfl) ?_ _
            cases B
            · have hbn : bestM p split o (do4 p s split t) = none := by
                rcases HRES.out with ⟨_, h⟩ | ⟨h, _⟩
                · cases h
                · exact h
              have hπ : π = [] := by
                rcases HRES.out with ⟨_, h⟩ | ⟨_, _, h⟩
                · cases h
                · exact h
              subst hπ
              have hm9' : m9 = m + 1 := by rw [HM9.out]; simp [HM.out]
              subst hm9'
              have HL9b := hid (show SrL4 w0 w w9 a cap p split o ao no co S0 L L9 ra ra9 rc9 (m + 1) (ms ++ [(t : Int)]) n b s (some ⟨vb, vo, none⟩) (k + 1) from ((by simpa using HL9.out : SrL4 w0 w w9 a cap p split o ao no co S0 L L9 ra ra9 rc9 (m + 1) (ms ++ [(t : Int)]) n b s (some ⟨vb, vo, none⟩) k)).next HX.out hbn)
              have c4 : w9.cell? ⟨S0 + 4, 0, none⟩ = some (.slice ra9 (m + 1) rc9) := cell_of_row w9 (S0 + 4) 0 _ _ _ HL9b.out.sw.c4
              have f4 := frozen_of_row w9 (S0 + 4) 0 _ _ HL9b.out.sw.c4
              have hcap : m + 1 ≤ rc9 := own_cap HL9b.out.sw.row
              have hm91 : m ≤ 1000 := by have := HMB.out; omega
              have hsr9 := HL9b.out.sw.top
              clear HL9 HL8 HL7 HRES HA8
              go_wp2_with fail
              go_roundw
              case rel =>
                have hrr := HL9b.out.sw.rows (rc3 := rc9) (m' := m) (ms' := ms) (ra3 := ra9) (Keeps.refl _ _) (own_pop (x := .int .i64 (t : Int)) (own_cast HL9b.out.sw.row rfl (by simp))) HL9b.out.sw.rb
                exact ⟨k + 1, L9, ra9, rc9, by omega, by go_num, hid (HL9b.out.turn hrr.1 HL9b.out.fo (GrowF4.refl _ _ _ _) hrr.2 fun k hk => .inl hk)⟩
              case measure => simp [intOf]; omega
            · have hbs : bestM p split o (do4 p s split t) = some π := by
                rcases HRES.out with ⟨h, _⟩ | ⟨_, h, _⟩
                · exact h
                · cases h
              have HE := hid (show bestM p split o s = some ((t : Int) :: π) by
                rw [bestM_moves HSH.out HG.out.toGood4 HDD.out.symm]
                refine findSome_at _ k _ HX.out (fun i y hi hy => by rw [HL9.out.no i y hi hy]; rfl) ?_
                rw [show ((t : Int)).toNat = t from rfl, hbs]; rfl)
              clear hbs
              go_wp2_with fail
              go_ret
              have HW9 : SrW w0 w9 ao no co S0 L9 ra9 rc9 m9 (ms ++ ((t : Int) :: π)) := by simpa using HL9.out.sw
              exact ⟨true, (t : Int) :: π, L9, ra9, rc9, m9, rfl, .inl ⟨HE.out, rfl⟩, by rw [HM9.out]; simp, HW9, HL9.out.fo, HL9.out.gr.mono (Nat.le_succ _), HL9.out.kp, HL9.out.nb⟩
          · go_simp
            refine (HAF.out w7 (SrS S0 ra3) (HRP.out _ HL7.out.sw.below) HL7.out.st.x (fun k e => by
              have := HL7.out.sw.top
              rcases e with e | e | e
              · omega
              · omega
              · exact (own_blk HL7.out.sw.row _ e).2)).mono ?_
            rintro e w8 ⟨HS7, rfl, ha8, hb8⟩
            have HL8 := hid (HL7.out.step hb8)
            have HA8 := hid (show SqB w8 a cap p split S0 ra3 HS7 (do4 p s split t) from ⟨ha8, HL7.out.st.p0⟩)
            clear ha8 hb8
            refine hK _ _ ?_
            clear hK K
            refine wpAny_ready (rs := [0]) (by kernel_rfl) (by simp) ?_
            refine AllReady.cons rfl (fun K hK => ?_) AllReady.nil
            have c5 : w8.cell? ⟨S0 + 5, 0, none⟩ = some (fromV S0) := cell_of_row w8 (S0 + 5) 0 _ _ _ HL8.out.sw.c5
            go_simp
            refine hK _ _ ?_
            clear hK K c5
            refine wpAny_ready (rs := [4]) (by kernel_rfl) (by simp) ?_
            refine AllReady.cons rfl (fun K hK => ?_) AllReady.nil
            go_simp
            refine (HIH.out (left4 p (do4 p s split t)) (HLE.out) w8 HS7 (do4 p s split t) L2 ra3 rc3 (m + 1) (ms ++ [(t : Int)]) rfl HG8.out (by rw [List.length_append, HM.out]; rfl) (by have := HLE.out; have := HMB.out; have := HLN.out; omega) HL8.out.sw HA8.out HL8.out.fo).mono ?_
            rintro e w9 ⟨B, π, L9, ra9, rc9, m9, rfl, hres, hm9, hw9, hf9, hg9, hk9, hn9⟩
            have HRES := hid hres
            have HM9 := hid hm9
            have HL9 := hid (HL8.out.turn hw9 hf9 (hg9.mono HLE.out) hk9 hn9)
            clear hres hm9 hw9 hf9 hg9 hk9 hn9
            refine hK _ _ ?_
            clear hK K
            refine wpAny_done (by kernel_rfl) ?_ _
            cases B
            · have hbn : bestM p split o (do4 p s split t) = none := by
                rcases HRES.out with ⟨_, h⟩ | ⟨h, _⟩
                · cases h
                · exact h
              have hπ : π = [] := by
                rcases HRES.out with ⟨_, h⟩ | ⟨_, _, h⟩
                · cases h
                · exact h
              subst hπ
              have hm9' : m9 = m + 1 := by rw [HM9.out]; simp [HM.out]
              subst hm9'
              have HL9b := hid (show SrL4 w0 w w9 a cap p split o ao no co S0 L L9 ra ra9 rc9 (m + 1) (ms ++ [(t : Int)]) n b s (some ⟨vb, vo, none⟩) (k + 1) from ((by simpa using HL9.out : SrL4 w0 w w9 a cap p split o ao no co S0 L L9 ra ra9 rc9 (m + 1) (ms ++ [(t : Int)]) n b s (some ⟨vb, vo, none⟩) k)).next HX.out hbn)
              have c4 : w9.cell? ⟨S0 + 4, 0, none⟩ = some (.slice ra9 (m + 1) rc9) := cell_of_row w9 (S0 + 4) 0 _ _ _ HL9b.out.sw.c4
              have f4 := frozen_of_row w9 (S0 + 4) 0 _ _ HL9b.out.sw.c4
              have hcap : m + 1 ≤ rc9 := own_cap HL9b.out.sw.row
              have hm91 : m ≤ 1000 := by have := HMB.out; omega
              have hsr9 := HL9b.out.sw.top
              clear HL9 HL8 HL7 HRES HA8
              go_wp2_with fail
              go_roundw
              case rel =>
                have hrr := HL9b.out.sw.rows (rc3 := rc9) (m' := m) (ms' := ms) (ra3 := ra9) (Keeps.refl _ _) (own_pop (x := .int .i64 (t : Int)) (own_cast HL9b.out.sw.row rfl (by simp))) HL9b.out.sw.rb
                exact ⟨k + 1, L9, ra9, rc9, by omega, by go_num, hid (HL9b.out.turn hrr.1 HL9b.out.fo (GrowF4.refl _ _ _ _) hrr.2 fun k hk => .inl hk)⟩
              case measure => simp [intOf]; omega
            · have hbs : bestM p split o (do4 p s split t) = some π := by
                rcases HRES.out with ⟨h, _⟩ | ⟨_, h, _⟩
                · exact h
                · cases h
              have HE := hid (show bestM p split o s = some ((t : Int) :: π) by
                rw [bestM_moves HSH.out HG.out.toGood4 HDD.out.symm]
                refine findSome_at _ k _ HX.out (fun i y hi hy => by rw [HL9.out.no i y hi hy]; rfl) ?_
                rw [show ((t : Int)).toNat = t from rfl, hbs]; rfl)
              clear hbs
              go_wp2_with fail
              go_ret
              have HW9 : SrW w0 w9 ao no co S0 L9 ra9 rc9 m9 (ms ++ ((t : Int) :: π)) := by simpa using HL9.out.sw
              exact ⟨true, (t : Int) :: π, L9, ra9, rc9, m9, rfl, .inl ⟨HE.out, rfl⟩, by rw [HM9.out]; simp, HW9, HL9.out.fo, HL9.out.gr.mono (Nat.le_succ _), HL9.out.kp, HL9.out.nb⟩
        · have HE := hid (show bestM p split o s = none by
            rw [bestM_moves HSH.out HG.out.toGood4 HDD.out.symm]
            exact findSome_no _ fun i y hy => by
              rw [HL.out.no i y (by have := (List.getElem?_eq_some_iff.1 hy).1; have := HNM.out; omega) hy]; rfl)
          obtain ⟨w6, hput, hmp6, hg6⟩ := run_putB HL.out.sw.mp (strOfNums (keyW s)) HKS.out (HL.out.fo.len HSH.out)
          have HW6 := hid (HL.out.sw.put4 hmp6 hg6)
          have HK6 := hid (keeps_trans1 (S2 := fun j => j = S0 + 1) HL.out.kp (Keeps.of_grown hg6 (fun k hk => (Option.some.inj hk).symm)) (fun j _ e => .inl e))
          have c2 := cell_of_row wr (S0 + 2) 0 _ _ _ HL.out.sw.c2
          have c2 : wr.cell? ⟨S0 + 2, 0, none⟩ = some (.map (some (S0 + 1))) := c2
          have HNF := hid (show keyL4 s ∉ L from fun hm => by
            have := HFL.out
            rw [show decide ((strOfNums (keyW s)).data.toList ∈ L) = true from decide_eq_true hm] at this
            cases this)
          clear hmp6 hg6
          go_wp2_with fail
          go_ret
          exact ⟨false, [], L2 ++ [keyL4 s], ra2, rc2, m, rfl, .inr ⟨HE.out, rfl, rfl⟩, by rw [List.append_nil]; exact HM.out, by rw [List.append_nil]; exact HW6.out, HL.out.fo.put HSH.out HG.out HNF.out (by rw [HLN.out]; exact HL.out.gr) HE.out, (HL.out.gr.mono (Nat.le_succ _)).put HG.out (by rw [HLN.out]; omega), HK6.out, HL.out.nb⟩
    · have hc0 := fun w' (hb : Below w1.heap.size w1 w') => (show w'.cell? ⟨S0, 0, none⟩ = some (.slice ao no co) from cell_of_row w' S0 0 _ _ _ (HW1.out.step hb).c0)
      have HC0 := hid hc0
      have HOL := hid (show (out3 s).length = o.length from by unfold out3; rw [List.length_append, HG.out.regl, HG.out.meml, HOL0.out])
      clear hc0
      refine wp_region_any (by kernel_rfl) ?_
      change wpAny _ _ _ _ _ _ _ (World.drew _)
      refine wpAny_take (i := 0) (v := ?_) rfl (by kernel_rfl) (by kernel_rfl) (by kernel_rfl) (fun _ _ _ h => h) (Or.inl ⟨rfl, ?_⟩) ?_
      rotate_left
      · intro w; go_simp; try with_reducible rfl
      refine wpAny_ready (rs := [1]) (by kernel_rfl) (by simp) ?_
      refine AllReady.cons rfl (fun K hK => ?_) AllReady.nil
      go_simp
      refine (HD.out _ ((HA1.out.below (below_drewN 1 (Below.refl _ _))).mat (HRP.out _ (HW1.out.step (below_drewN 1 (Below.refl _ _))).below) HG.out.toGood)).mono ?_
      rintro e w2 ⟨rfl, hb2⟩
      have HB2 := hid (show Below w1.heap.size w1 w2 from (below_drewN 1 (Below.refl w1.heap.size w1)).trans hb2)
      clear hb2
      refine hK _ _ ?_
      clear hK K
      refine wpAny_take (i := 2) (v := ?_) rfl (by kernel_rfl) (by kernel_rfl) (by kernel_rfl) (fun _ _ _ h => h) (Or.inl ⟨rfl, ?_⟩) ?_
      rotate_left
      · intro w; go_simp; try with_reducible rfl
      refine wpAny_take (i := 3) (v := ?_) rfl (by kernel_rfl) (by kernel_rfl) (by kernel_rfl) (fun _ _ _ h => h) (Or.inl ⟨rfl, ?_⟩) ?_
      rotate_left
      · intro w; go_simp; try with_reducible rfl
      refine wpAny_ready (rs := [4, 5]) (by kernel_rfl) (by simp) ?_
      refine AllReady.cons rfl (fun K hK => ?_) (AllReady.cons rfl (fun K hK => ?_) AllReady.nil)
      · go_simp
        refine (HOUT.out _ ((HA1.out.below HB2.out).mat (HRP.out _ (HW1.out.step HB2.out).below) HG.out.toGood)).mono ?_
        rintro e w3 ⟨va, vc, rfl, hown3, hb3⟩
        refine hK _ _ ?_
        clear hK K
        refine wpAny_ready (rs := [5]) (by kernel_rfl) (by simp) ?_
        refine AllReady.cons rfl (fun K hK => ?_) AllReady.nil
        have c0 := HC0.out w3 (HB2.out.trans (hb3.mono HB2.out.size))
        go_simp
        refine hK _ _ ?_
        clear hK K
        have HB3 := hid (show Below w1.heap.size w1 w3 from HB2.out.trans (hb3.mono HB2.out.size))
        have HEQ3 := hid (HEQ.out w3 va ao vc co (out3 s) o (Rd.own hown3) (HRO.out _ (HW1.out.step HB3.out).below) (by rw [HOL.out, ← HNO.out]; omega) (by rw [← HNO.out]; omega))
        rw [HOL.out, ← HNO.out] at HEQ3
        clear hown3 hb3
        refine wpAny_ready (rs := [6]) (by kernel_rfl) (by simp) ?_
        refine AllReady.cons rfl (fun K hK => ?_) AllReady.nil
        go_simp
        rw [HOL.out, ← HNO.out]
        refine HEQ3.out.mono ?_
        rintro e w4 ⟨rfl, hb4⟩
        have HB4 := hid (HB3.out.trans (hb4.mono HB3.out.size))
        clear hb4
        refine hK _ _ ?_
        clear hK K
        refine wpAny_take (i := 7) (v := ?_) rfl (by kernel_rfl) (by kernel_rfl) (by kernel_rfl) (fun _ _ _ h => h) (Or.inl ⟨rfl, ?_⟩) ?_
        rotate_left
        · intro w; go_simp; try with_reducible rfl
        refine wpAny_done (by kernel_rfl) ?_ _
        by_cases heq : out3 s = o
        · have hd : decide (out3 s = o) = true := decide_eq_true heq
          have HE := hid (show bestM p split o s = some [] by rw [bestM_done HDD.out.symm, if_pos heq])
          rw [hd]
          go_wp2_with fail
          go_ret
          exact ⟨true, [], L, ra, rc, m, rfl, .inl ⟨HE.out, rfl⟩, by rw [List.append_nil]; exact HM.out, by rw [List.append_nil]; exact HW1.out.step HB4.out, HFK.out, GrowF4.refl _ _ _ _, Keeps.of_below (HBW.out.trans (HB4.out.mono HBW.out.size)), fun k hk => .inl hk⟩
        · have hd : decide (out3 s = o) = false := decide_eq_false heq
          have HE := hid (show bestM p split o s = none by rw [bestM_done HDD.out.symm, if_neg heq])
          rw [hd]
          have HMV4 := hid (HMV.out w4 ((HA1.out.below HB4.out).mat (HRP.out _ (HW1.out.step HB4.out).below) HG.out.toGood))
          rw [moves4_end HDD.out.symm] at HMV4
          go_wp2_with fail
          refine HMV4.out.mono ?_
          rintro e w5 ⟨vb, vd, rfl, _, hb5⟩
          have HB5 := hid (HB4.out.trans (hb5.mono HB4.out.size))
          have HW5 := hid (HW1.out.step HB5.out)
          obtain ⟨w6, hput, hmp6, hg6⟩ := run_putB HW5.out.mp (strOfNums (keyW s)) HKS.out (HFK.out.len HSH.out)
          have HW6 := hid (HW5.out.put4 hmp6 hg6)
          have HK6 := hid (show Keeps (SrS S0 ra) w w6 from (Keeps.of_below (HBW.out.trans (HB5.out.mono HBW.out.size))).trans (Keeps.of_grown hg6 (fun k hk => .inl (Option.some.inj hk).symm)))
          have c2 := cell_of_row w5 (S0 + 2) 0 _ _ _ HW5.out.c2
          have c2 : w5.cell? ⟨S0 + 2, 0, none⟩ = some (.map (some (S0 + 1))) := c2
          have HNF := hid (show keyL4 s ∉ L from fun hm => by
            have := HFL.out
            rw [show decide ((strOfNums (keyW s)).data.toList ∈ L) = true from decide_eq_true hm] at this
            cases this)
          clear hb5 hmp6 hg6
          go_wp2_with fail
          go_loop [26, 9] (fun i _ => i = .int .i64 0) (fun _ _ => 0)
          case atStart => rfl
          case round =>
            subst hrel
            go_wp2_with fail
            go_ret
            exact ⟨false, [], L ++ [keyL4 s], ra, rc, m, rfl, .inr ⟨HE.out, rfl, rfl⟩, by rw [List.append_nil]; exact HM.out, by rw [List.append_nil]; exact HW6.out, HFK.out.put HSH.out HG.out HNF.out (GrowF4.refl _ _ _ _) HE.out, (GrowF4.refl _ _ _ _).put HG.out (by rw [HLN.out]; omega), HK6.out, fun k hk => .inl hk⟩
      · have c0 := HC0.out w2 HB2.out
        go_simp
        refine hK _ _ ?_
        clear hK K
        refine wpAny_ready (rs := [4]) (by kernel_rfl) (by simp) ?_
        refine AllReady.cons rfl (fun K hK => ?_) AllReady.nil
        go_simp
        refine (HOUT.out _ ((HA1.out.below HB2.out).mat (HRP.out _ (HW1.out.step HB2.out).below) HG.out.toGood)).mono ?_
        rintro e w3 ⟨va, vc, rfl, hown3, hb3⟩
        refine hK _ _ ?_
        clear hK K
        have HB3 := hid (show Below w1.heap.size w1 w3 from HB2.out.trans (hb3.mono HB2.out.size))
        have HEQ3 := hid (HEQ.out w3 va ao vc co (out3 s) o (Rd.own hown3) (HRO.out _ (HW1.out.step HB3.out).below) (by rw [HOL.out, ← HNO.out]; omega) (by rw [← HNO.out]; omega))
        rw [HOL.out, ← HNO.out] at HEQ3
        clear hown3 hb3
        refine wpAny_ready (rs := [6]) (by kernel_rfl) (by simp) ?_
        refine AllReady.cons rfl (fun K hK => ?_) AllReady.nil
        go_simp
        rw [HOL.out, ← HNO.out]
        refine HEQ3.out.mono ?_
        rintro e w4 ⟨rfl, hb4⟩
        have HB4 := hid (HB3.out.trans (hb4.mono HB3.out.size))
        clear hb4
        refine hK _ _ ?_
        clear hK K
        refine wpAny_take (i := 7) (v := ?_) rfl (by kernel_rfl) (by kernel_rfl) (by kernel_rfl) (fun _ _ _ h => h) (Or.inl ⟨rfl, ?_⟩) ?_
        rotate_left
        · intro w; go_simp; try with_reducible rfl
        refine wpAny_done (by kernel_rfl) ?_ _
        by_cases heq : out3 s = o
        · have hd : decide (out3 s = o) = true := decide_eq_true heq
          have HE := hid (show bestM p split o s = some [] by rw [bestM_done HDD.out.symm, if_pos heq])
          rw [hd]
          go_wp2_with fail
          go_ret
          exact ⟨true, [], L, ra, rc, m, rfl, .inl ⟨HE.out, rfl⟩, by rw [List.append_nil]; exact HM.out, by rw [List.append_nil]; exact HW1.out.step HB4.out, HFK.out, GrowF4.refl _ _ _ _, Keeps.of_below (HBW.out.trans (HB4.out.mono HBW.out.size)), fun k hk => .inl hk⟩
        · have hd : decide (out3 s = o) = false := decide_eq_false heq
          have HE := hid (show bestM p split o s = none by rw [bestM_done HDD.out.symm, if_neg heq])
          rw [hd]
          have HMV4 := hid (HMV.out w4 ((HA1.out.below HB4.out).mat (HRP.out _ (HW1.out.step HB4.out).below) HG.out.toGood))
          rw [moves4_end HDD.out.symm] at HMV4
          go_wp2_with fail
          refine HMV4.out.mono ?_
          rintro e w5 ⟨vb, vd, rfl, _, hb5⟩
          have HB5 := hid (HB4.out.trans (hb5.mono HB4.out.size))
          have HW5 := hid (HW1.out.step HB5.out)
          obtain ⟨w6, hput, hmp6, hg6⟩ := run_putB HW5.out.mp (strOfNums (keyW s)) HKS.out (HFK.out.len HSH.out)
          have HW6 := hid (HW5.out.put4 hmp6 hg6)
          have HK6 := hid (show Keeps (SrS S0 ra) w w6 from (Keeps.of_below (HBW.out.trans (HB5.out.mono HBW.out.size))).trans (Keeps.of_grown hg6 (fun k hk => .inl (Option.some.inj hk).symm)))
          have c2 := cell_of_row w5 (S0 + 2) 0 _ _ _ HW5.out.c2
          have c2 : w5.cell? ⟨S0 + 2, 0, none⟩ = some (.map (some (S0 + 1))) := c2
          have HNF := hid (show keyL4 s ∉ L from fun hm => by
            have := HFL.out
            rw [show decide ((strOfNums (keyW s)).data.toList ∈ L) = true from decide_eq_true hm] at this
            cases this)
          clear hb5 hmp6 hg6
          go_wp2_with fail
          go_loop [26, 9] (fun i _ => i = .int .i64 0) (fun _ _ => 0)
          case atStart => rfl
          case round =>
            subst hrel
            go_wp2_with fail
            go_ret
            exact ⟨false, [], L ++ [keyL4 s], ra, rc, m, rfl, .inr ⟨HE.out, rfl, rfl⟩, by rw [List.append_nil]; exact HM.out, by rw [List.append_nil]; exact HW6.out, HFK.out.put HSH.out HG.out HNF.out (GrowF4.refl _ _ _ _) HE.out, (GrowF4.refl _ _ _ _).put HG.out (by rw [HLN.out]; omega), HK6.out, fun k hk => .inl hk⟩
  · have HE := hid (show bestM p split o s = none from HFK.out.no s HG.out (by
      have := HFL.out
      exact of_decide_eq_true this.symm))
    go_wp2_with fail
    go_ret
    exact ⟨false, [], L, ra, rc, m, rfl, .inr ⟨HE.out, rfl, rfl⟩, by rw [List.append_nil]; exact HM.out, by rw [List.append_nil]; exact HW1.out, HFK.out, GrowF4.refl _ _ _ _, Keeps.of_below HBW.out, fun k hk => .inl hk⟩
end Go.Proofs.Ytbncmeggnhggkaa
