/-
  PROVED HERE: what spec.l1Copy and spec.l1Tests do. CONDITIONS: as each theorem states.
-/
import Derived.Test.YthlmfjoiicnomaaArd
import Derived.Test.YthlmfjoiicnomaaPsh
namespace Go.Proofs.Ythlmfjoiicnomaa
open Go.RowKit
set_option linter.unusedVariables false
set_option linter.unusedSimpArgs false

theorem wpList_pushn {ops : Array Oper} {Q : Exit → Act → World → Prop} {a : Act} {w : World} {o : Oper} {rest : List Oper} (hgd : o.guard = none) (s x : Operand)
    (ho : o.op = .call { callee := .builtin .append, args := #[s, x], argTypes := #[23, 23] })
    (base top : Nat) (b : Option Addr) (n cap : Nat) (p : Prg) (hpn : p.length = n) (hs : a.eval s = .slice b n cap) (hP : OwP w base top b cap p) (r : Option Addr) (c m : Nat) (ys : List Ins) (hm : ys.length = m) (hr : w.ownsRow base 70 4 (.slice r m c) m (insV ys)) (hrt : ∀ k, blk r = some k → top ≤ k)
    (ad : Addr) (hx : a.eval x = .slice (some ad) 1 1) (hu : w.cell? ad = some (.slice r m c)) (hn : n + 1 ≤ 3000000) (hbase : base ≤ w.heap.size)
    (h : ∀ a' cap' w', OwP w' base w'.heap.size a' cap' (p ++ [ys]) → w.grownBy w' (blk b) → wpList Try.prog ops Q rest (a.put o.dst (.slice a' (n + 1) cap')) w') : wpList Try.prog ops Q (o :: rest) a w := by
  subst hpn
  subst hm
  exact wpList_push hgd s x ho base top b cap p hs hP (r, c) ys hr hrt ad hx hu hn hbase h
theorem take_get {p : Prg} {k : Nat} {xs : List Ins} (h : p[k]? = some xs) : p.take (k + 1) = p.take k ++ [xs] := by
  obtain ⟨hi, rfl⟩ := List.getElem?_eq_some_iff.1 h
  exact List.take_succ_eq_append_getElem hi

set_option maxHeartbeats 1600000 in
theorem l1Copy_c (w : World) (a : Option Addr) (cap : Nat) (p : Prg) (h : RdP w a p) (hl : sizeP p ≤ 900000) :
    Calls Try.prog 64 #[.slice a p.length cap] w fun e w' => ∃ b c, e = .returned (.slice b p.length c) ∧ OwP w' w.heap.size w'.heap.size b c p ∧ Below w.heap.size w w' := by
  obtain ⟨n, hn⟩ : ∃ n, n = p.length := ⟨_, rfl⟩
  have hn1 : n ≤ 900000 := by have := sizeP_len p; omega
  have HH := hid h
  have HN := hid hn
  have HLEN := hid (fun k (hk : k ≤ n) => (show (p.take k).length = k by rw [List.length_take]; omega))
  have HXL := hid (fun (k : Nat) (xs : List Ins) (hx : p[k]? = some xs) => (show xs.length ≤ 900000 by have := sizeP_row hx; omega))
  have HALL := hid (show p.take n = p by rw [hn]; exact List.take_length)
  have HP0 := hid (OwP.nil w w.heap.size 30 (Nat.le_refl _) rfl)
  have HB0 := hid ((Below.refl w.heap.size w).alloc (Nat.le_refl _) (.cells #[] 30))
  rw [← hn]
  clear h hl hn
  go_enter Try.func64, Try.ntmps64
  go_wp2
  go_loopw [3, 4] (fun v i wr => ∃ k : Nat, k ≤ n ∧ i = .int .i64 k ∧ (∃ b cap, v = .slice b k cap ∧ Hid (OwP wr w.heap.size wr.heap.size b cap (p.take k))) ∧ Hid (Below w.heap.size w wr)) (fun _ i _ => n - (intOf i).toNat)
  case atStart => exact ⟨0, Nat.zero_le _, rfl, ⟨_, _, rfl, hid (by have := HP0.out; simpa using this)⟩, HB0⟩
  case round =>
    obtain ⟨k, hk, rfl, ⟨b, bc, rfl, HP⟩, HB⟩ := hrel
    obtain ⟨wo, rfl⟩ : ∃ wo : World, wo = wr := ⟨_, rfl⟩
    have hbs := HB.out.size
    have HL := hid (HLEN.out k hk)
    by_cases hlt : k < n
    · obtain ⟨rb, off, r, c, xs, hab, hb, hx, hc, hr⟩ := HH.out.at k (by rw [← HN.out]; exact hlt)
      subst hab
      have hc1 := (HB.out.cell (p := ⟨rb, off + k, none⟩) hb).trans hc
      have hbw : rb < wo.heap.size := by omega
      have HR := hid ((hr.below HB.out).alloc (.cells #[] 70))
      have HT := hid (take_get hx)
      have hxl := HXL.out k xs hx
      obtain ⟨m, hm⟩ : ∃ m, m = xs.length := ⟨_, rfl⟩
      have HM := hid hm
      rw [← hm] at hc1 hxl
      clear hx hc hr hm
      go_wp2_with (at_builtin; refine wpList_append_rd rfl (.tmp 13) (.tmp 17) 30 rfl w.heap.size 70 (.agg #[.int .i64 0, .int .i64 0, .int .i64 0, .int .i64 0]) 4 32 Try.underlying30 Try.info_instr rfl (by decide) _ 0 [] rfl (own_lit0 wo w.heap.size 70 4 hbs) r m c (insV xs) rfl HR.out (by rw [length_insV, HM.out]) (insV_one xs) (by omega) (by decide) (by simp; omega) ?_)
      intro v1 w1 hown1 hgrow1 hat1
      obtain ⟨a1, c1, rfl, hb1⟩ := own_shape hown1
      rw [ownBlock_slice] at hat1
      have HO1 := hid (show w1.ownsRow w.heap.size 70 4 (.slice a1 m c1) m (insV xs) by simpa using hown1)
      have HT1 := hid (show ∀ q, blk a1 = some q → wo.heap.size ≤ q from fun q hq => by
        rcases hat1 with h | h
        · rw [hq] at h; simp [Value.ownBlock] at h; omega
        · rw [hq] at h; simp at h; omega)
      have HP1 := hid ((HP.out.below ((Below.refl _ _).alloc (Nat.le_refl _) (.cells #[] 70))).grown hgrow1 (fun q hq => by simp [Value.ownBlock] at hq; omega))
      have HB1 := hid ((HB.out.alloc HB.out.size (.cells #[] 70)).grown hgrow1 (by simp; omega) (fun q hq => by simp [Value.ownBlock] at hq; omega))
      have hs1 := HB1.out.size
      clear hown1 hgrow1 hat1 hb1
      go_wp2_with (at_builtin; refine wpList_pushn rfl (.tmp 12) (.tmp 19) rfl w.heap.size wo.heap.size b k bc (p.take k) HL.out rfl (HP1.out.below ((Below.refl _ _).alloc (Nat.le_refl _) _)) a1 c1 m xs HM.out.symm (HO1.out.alloc _) HT1.out ⟨w1.heap.size, 0, none⟩ rfl (by simp) (by omega) (by simp; omega) ?_)
      intro a2 c2 w2 hP2 hg2
      have HP2 := hid hP2
      rw [← HT.out] at HP2
      have HB2 := hid ((HB1.out.alloc HB1.out.size (.cells #[.slice a1 m c1] 30)).grown hg2 (by simp; omega) (fun q hq => by
        obtain ⟨rs, _, ho, _⟩ := HP.out
        exact (own_blk ho q hq).1))
      clear hP2 hg2
      go_wp2_with fail
      go_roundw
      case rel => exact ⟨k + 1, by omega, by go_num, ⟨_, _, rfl, HP2⟩, HB2⟩
      case measure => simp [intOf]; omega
    · obtain rfl : k = n := by omega
      have HPE := hid HP.out
      rw [HALL.out] at HPE
      go_wp2
      go_ret
      exact ⟨_, _, rfl, HPE.out, HB.out⟩

/-- The test texts lie in block H. -/
def TestsAt (w : World) (H : Nat) : Prop := H < w.heap.size ∧ ∀ k, k < 21 → ∃ s : ByteArray, s.size ≤ 100 ∧ w.cell? ⟨H, k, none⟩ = some (.string s)
def strB (v : Option Value) : Bool := match v with | some (.string s) => decide (s.size ≤ 100) | _ => false
theorem tests_at (w : World) (arr : Array Value) (e : Nat) (h : (List.range 21).all (fun k => strB (arr[k]?)) = true) : TestsAt (w.alloc (.cells arr e)) w.heap.size := by
  refine ⟨by simp, fun k hk => ?_⟩
  have hb := List.all_eq_true.1 h k (List.mem_range.2 hk)
  unfold strB at hb
  split at hb
  · rename_i s hs
    exact ⟨s, by simpa using hb, by rw [cell_of_row _ w.heap.size k _ e (0, 0) (heap_alloc_new w _)]; exact hs⟩
  · cases hb
theorem TestsAt.below {w w' : World} {H : Nat} (h : TestsAt w H) (hb : Below w.heap.size w w') : TestsAt w' H :=
  ⟨Nat.lt_of_lt_of_le h.1 hb.size, fun k hk => by
    obtain ⟨s, h1, h2⟩ := h.2 k hk
    exact ⟨s, h1, (hb.cell (p := ⟨H, k, none⟩) h.1).trans h2⟩⟩
theorem TestsAt.kept {w w' : World} {H g : Nat} (h : TestsAt w H) (hg : w.grownBy w' (some g)) (hne : H ≠ g) : TestsAt w' H :=
  ⟨Nat.lt_of_lt_of_le h.1 hg.size, fun k hk => by
    obtain ⟨s, h1, h2⟩ := h.2 k hk
    exact ⟨s, h1, hg.cell h2 (fun e => hne (Option.some.inj e))⟩⟩
set_option maxRecDepth 100000 in
theorem l1Tests_c (w : World) : Calls Try.prog 57 #[] w fun e w' => e = .returned (.slice (some ⟨w.heap.size, 0, none⟩) 21 21) ∧ TestsAt w' w.heap.size ∧ Below w.heap.size w w' := by
  go_enter Try.func57, Try.ntmps57
  go_wp2
  go_ret
  exact ⟨rfl, tests_at w _ _ (by decide +kernel), (Below.refl _ _).alloc (Nat.le_refl _) _⟩
end Go.Proofs.Ythlmfjoiicnomaa
