/-
  PROVED HERE: the map of texts that impl.ParseProgram makes: what it holds, its store and its look-up at the operation. what impl.ParseProgram does. the wrap of a law with listed package variables, the world's shape kept; the cell of internal/bytealg.MaxLen. CONDITIONS: as each theorem states.
-/
import Derived.Test.YtmeoclkngjboiaaDoorSp2
import Derived.Test.YtmeoclkngjboiaaDoorFree
import Derived.Maps.OwnSet
import Derived.Maps.OwnOps
import Derived.ShutString
import Derived.ProofKit
import Derived.LaidMore
import Derived.Stop.Joined
import Derived.HandedShaped
import Derived.Shelf.Vars
namespace Go.Proofs.YtmeoclkngjboiaaDoor
open Go.RowKit Go.Maps
set_option linter.unusedVariables false
set_option linter.unusedSimpArgs false

abbrev insD (x : Ins) : DataW Unit := .agg [.lit (.int .i64 x.op), .lit (.int .i64 x.loc), .lit (.int .i64 x.reg), .lit (.int .i64 x.val)]
theorem insV_inj {x y : Ins} (h : x.v = y.v) : x = y := by
  obtain ⟨a, b, c, d⟩ := x
  obtain ⟨a', b', c', d'⟩ := y
  simp at h
  obtain ⟨rfl, rfl, rfl, rfl⟩ := h
  rfl
theorem insD_inj {x y : Ins} (h : insD x = insD y) : x = y := by
  obtain ⟨a, b, c, d⟩ := x
  obtain ⟨a', b', c', d'⟩ := y
  simp at h
  obtain ⟨rfl, rfl, rfl, rfl⟩ := h
  rfl
open Classical in
noncomputable def insElem (v : Value) : Option (DataW Unit × List MemPlace) := if h : ∃ x : Ins, v = x.v then some (insD (Classical.choose h), []) else none
theorem insElem_mk (x : Ins) : insElem x.v = some (insD x, []) := by
  have h : ∃ y : Ins, x.v = y.v := ⟨x, rfl⟩
  unfold insElem
  rw [dif_pos h, ← insV_inj (Classical.choose_spec h)]
theorem insElem_inv {v : Value} {x : Ins} {ps : List MemPlace} (h : insElem v = some (insD x, ps)) : v = x.v := by
  unfold insElem at h
  split at h
  · rename_i he
    simp only [Option.some.injEq, Prod.mk.injEq] at h
    rw [Classical.choose_spec he, insD_inj h.1]
  · cases h
def Dt (L : List Ins) : DataW Unit := L.foldl (fun D x => D.put (.string (insL x)) (insD x)) (.map [])
theorem Dt_snoc (L : List Ins) (x : Ins) : Dt (L ++ [x]) = (Dt L).put (.string (insL x)) (insD x) := by simp [Dt, List.foldl_append]
theorem Dt_map (L : List Ins) : IsMap (Dt L) := by
  have : ∀ (L : List Ins) (D : DataW Unit), IsMap D → IsMap (L.foldl (fun D x => D.put (.string (insL x)) (insD x)) D) := by
    intro L
    induction L with
    | nil => intro D h; exact h
    | cons x L ih => intro D h; exact ih _ (h.put _ _)
  exact this L _ isMap_empty
theorem Dt_at (l : List UInt8) (z : DataW Unit) : ∀ (n : Nat) (L : List Ins), L.length = n → (∀ x ∈ L, insValid x = true) → (Dt L).atKey (.string l) z = (if L.any (fun x => decide (insL x = l)) then insD (decI l) else z) ∧ has (Dt L) (.string l) = L.any (fun x => decide (insL x = l))
  | 0, L, hn, _ => by
    have e : L = [] := List.eq_nil_of_length_eq_zero hn
    subst e
    exact ⟨rfl, rfl⟩
  | n + 1, L, hn, hv => by
    rcases List.eq_nil_or_concat L with e | ⟨M, x, e⟩
    · subst e
      simp at hn
    · rw [List.concat_eq_append] at e
      subst e
      have ih := Dt_at l z n M (by simpa using hn) fun y hy => hv y (List.mem_append_left _ hy)
      have hx := hv x (by simp)
      rw [Dt_snoc, List.any_append]
      by_cases h : insL x = l
      · have hk : (Lit.string (insL x)) = .string l := by rw [h]
        rw [hk, atKey_put_same (k := Lit.string l) (Dt_map M) trivial, has_put_same (k := Lit.string l) (Dt_map M) trivial]
        have hd : decI l = x := by rw [← h]; exact (ins_ok hx).1
        simp [h, hd]
      · have hk : (Lit.string l) ≠ .string (insL x) := fun e => h (Lit.string.inj e).symm
        rw [atKey_put_other hk, has_put_other hk, ih.1, ih.2]
        simp [h]
theorem mem_allTo {e : Nat} (hv : insValid (insAt e) = true) : ∀ {E : Nat}, e < E → insAt e ∈ allTo E
  | 0, h => by omega
  | E + 1, h => by
    show insAt e ∈ allTo E ++ _
    by_cases he : e = E
    · subst he
      rw [if_pos hv]
      simp
    · exact List.mem_append_left _ (mem_allTo hv (by omega))
theorem allTo_valid : ∀ {E : Nat} {x : Ins}, x ∈ allTo E → insValid x = true
  | 0, x, h => by simp [allTo] at h
  | E + 1, x, h => by
    have h : x ∈ allTo E ++ if insValid (insAt E) then [insAt E] else [] := h
    rcases List.mem_append.1 h with h | h
    · exact allTo_valid h
    · split at h
      · rw [List.mem_singleton] at h
        subst h
        assumption
      · simp at h
theorem mem_allI {x : Ins} (h : insValid x = true) : x ∈ allI := by
  obtain ⟨o, l, r, v, rfl, ho, hl, hr, hv⟩ := ins_nat h
  have e := insAt_eq o l r v (by omega) (by omega) (by omega) (by omega)
  rw [← e] at h ⊢
  exact mem_allTo h (by omega)
theorem allI_any (l : List UInt8) : allI.any (fun x => decide (insL x = l)) = okW l := by
  apply Bool.eq_iff_iff.2
  rw [List.any_eq_true]
  constructor
  · rintro ⟨x, hx, hl⟩
    rw [decide_eq_true_eq] at hl
    rw [← hl]
    exact okW_ins (allTo_valid hx)
  · intro h
    unfold okW at h
    simp only [Bool.and_eq_true, decide_eq_true_eq] at h
    exact ⟨decI l, mem_allI h.1, by simpa using h.2⟩
def lookI (l : List UInt8) : Ins := if okW l then decI l else ⟨0, 0, 0, 0⟩
theorem Dt_all (l : List UInt8) : (Dt allI).atKey (.string l) (insD ⟨0, 0, 0, 0⟩) = insD (lookI l) ∧ has (Dt allI) (.string l) = okW l := by
  have h := Dt_at l (insD ⟨0, 0, 0, 0⟩) _ allI rfl fun x hx => allTo_valid hx
  rw [allI_any] at h
  refine ⟨?_, h.2⟩
  rw [h.1]
  unfold lookI
  split <;> rfl

theorem strLaw : Keyed Tryd.prog 9 := string_keyed Tryd.underlying9
theorem zeroIns (w : World) : (zeroValue 46).run Tryd.prog w = .ok (Ins.v ⟨0, 0, 0, 0⟩) w := by kernel_rfl
abbrev TMap (w : World) (b n : Nat) (L : List Ins) : Prop := w.ownsMap Tryd.prog 9 insElem b n (Dt L)
theorem TMap.below {w w' : World} {B b n : Nat} {L : List Ins} (h : TMap w b n L) (hb : Below B w w') (hlt : b < B) : TMap w' b n L := by
  obtain ⟨es, clock, h1, h2⟩ := h
  exact ⟨es, clock, (hb.block b hlt).trans h1, h2⟩
theorem key_ba (l : List UInt8) (hl : l.length ≤ 2000000) : keyOf Tryd.prog 9 (.string (ba l)) = some (.string l) := by
  have := Go.WideMaps.keyOf_string_mk Tryd.underlying9 (s := ba l) (by rw [ba_size]; unfold maxLen; omega)
  exact this
theorem wpMix_put {ops : Array Oper} {Q : Act → World → Prop} {a : Act} {w : World} {o : Oper} {rest : List Oper} (hg : o.guard = none)
    (m k v : Operand) (hop : o.op = Op.mapUpdate 48 m k v) (b n : Nat) (L : List Ins) (x : Ins)
    (hm : a.eval m = .map (some b)) (hown : TMap w b n L) (hn : n < 100000) (hk : a.eval k = .string (ba (insL x))) (hv : a.eval v = x.v)
    (h : ∀ w', TMap w' b (n + 1) (L ++ [x]) → w.grownBy w' (some b) → wpMix Tryd.prog ops Q rest (a.put o.dst undef) w') : wpMix Tryd.prog ops Q (o :: rest) a w := by
  refine wpMix_act hg (by simp [actsB, hop]) fun K hK => ?_
  obtain ⟨w', hrun, r1, r2⟩ := hown.update strLaw Tryd.underlying48 (by unfold maxLen; omega) (key_ba (insL x) (by have := insL_le x; omega)) (insElem_mk x)
  rw [← Dt_snoc] at r1
  unfold Oper.wp
  simp [execOp, hop, hm, hk, hv, hrun, Result.andThen]
  exact hK _ _ (h w' r1 r2)
theorem wpList_look {ops : Array Oper} {Q : Exit → Act → World → Prop} {a : Act} {w : World} {o : Oper} {rest : List Oper} (hg : o.guard = none)
    (m k : Operand) (hop : o.op = Op.lookup 48 m k true) (b n : Nat) (l : List UInt8) (hl : l.length ≤ 2000000)
    (hm : a.eval m = .map (some b)) (hown : TMap w b n allI) (hk : a.eval k = .string (ba l))
    (hK : wpList Tryd.prog ops Q rest (a.put o.dst (.tuple #[(lookI l).v, .bool (okW l)])) w) : wpList Tryd.prog ops Q (o :: rest) a w := by
  have hd := Dt_all l
  refine wpList_lookup_own_ok w hg m k _ hop 9 46 strLaw Tryd.underlying48 insElem (zeroIns w) (insD ⟨0, 0, 0, 0⟩) [] (insElem_mk _) b n (Dt allI) hm hown _ _ hk (key_ba l hl) fun v ps hv => ?_
  rw [hd.1] at hv
  rw [hd.2, insElem_inv hv]
  exact hK
theorem OwP.none (w : World) (base top : Nat) : OwP w base top Option.none 0 [] :=
  ⟨[], rfl, World.ownsRow_nil w base _ 1, fun k r xs h => by simp at h, fun i k r s b h => by simp at h, fun k r b h => by simp at h, fun b hb => by simp [blk] at hb⟩
end Go.Proofs.YtmeoclkngjboiaaDoor
namespace Go.Proofs.YtmeoclkngjboiaaDoor
open Go.RowKit Go.Maps
set_option linter.unusedVariables false
set_option linter.unusedSimpArgs false

theorem take_step {α : Type} {l : List α} {k : Nat} {x : α} (h : l[k]? = some x) : l.take (k + 1) = l.take k ++ [x] := by
  obtain ⟨hi, rfl⟩ := List.getElem?_eq_some_iff.1 h
  exact List.take_succ_eq_append_getElem hi
theorem imp_no {s : ByteArray} {k : Nat} {t : List UInt8} (ht : (cutL 124 (bytS s))[k]? = some t) (h : okT t = false) : impRes s = ([], false) := by
  unfold impRes
  rw [if_neg]
  rintro ⟨ha, _⟩
  unfold allOk at ha
  rw [List.all_eq_true] at ha
  rw [ha t (List.mem_of_getElem? ht)] at h
  cases h
theorem okT_no {t l : List UInt8} {j : Nat} (h0 : t ≠ []) (hl : (cutL 59 t)[j]? = some l) (h : okW l = false) : okT t = false := by
  rw [Bool.eq_false_iff]
  intro ha
  unfold okT at ha
  simp only [h0, decide_false, Bool.false_or, List.all_eq_true] at ha
  rw [ha l (List.mem_of_getElem? hl)] at h
  cases h
theorem lookI_yes {l : List UInt8} (h : okW l = true) : lookI l = decI l := by unfold lookI; rw [if_pos h]
theorem pos_of_cell {w : World} {v : Value} (h : w.cell? ⟨0, 0, none⟩ = some v) : 0 < w.heap.size := by
  rcases Nat.eq_zero_or_pos w.heap.size with h0 | h0
  · have : w.heap[0]? = none := by simp [h0]
    simp [World.cell?, this] at h
  · exact h0

/-- What holds while the region that stores one text runs. -/
structure RegP (w : World) (B : Nat) (x : Ins) (k : Nat) (la : Option Addr) (n lcap : Nat) (S : Nat → Bool) (ρ : Nat → Value) (w' : World) : Prop where
  box : Box w' B x
  map : TMap w' w.heap.size k (allI.take k)
  row : w'.ownsRow (w.heap.size + 1) 46 4 (.slice la n lcap) n (insV allI)
  bel : Below w.heap.size w w'
  lt : B < w'.heap.size
  txt : S 2 = true → ρ 2 = .string (ba (insL x))
theorem RegP.call {w : World} {B : Nat} {x : Ins} {k : Nat} {la : Option Addr} {n lcap : Nat} {S : Nat → Bool} {ρ : Nat → Value} {w' w5 : World} (h : RegP w B x k la n lcap S ρ w') (hb : Below w'.heap.size w' w5) :
    RegP w B x k la n lcap (FR.upd S 2 true) (FR.upd ρ 2 (.string (ba (insL x)))) w5 :=
  ⟨h.box.below hb h.lt, h.map.below hb h.map.lt, own_below h.row hb, h.bel.trans (hb.mono h.bel.size), Nat.lt_of_lt_of_le h.lt hb.size, fun _ => by simp⟩

set_option maxRecDepth 100000 in
set_option maxHeartbeats 6400000 in
theorem ppI_c (w : World) (s : ByteArray) (g : Int) (hs : s.size ≤ 1048576) (hg : w.cell? ⟨0, 0, none⟩ = some (.int .i64 g)) : Calls Tryd.prog 8 #[.string s] w (RetPB w (impRes s)) := by
  have h0 := pos_of_cell hg
  have HG := hid (fun w' (hb : Below w.heap.size w w') => (show w'.cell? ⟨0, 0, none⟩ = some (.int .i64 g) from (hb.cell (p := ⟨0, 0, none⟩) h0).trans hg))
  have HSP := hid (fun w' (hb : Below w.heap.size w w') => split_c w' s 124 g hs (HG.out w' hb))
  have HSW := hid (fun w' (hb : Below w.heap.size w w') (t : List UInt8) (ht : (ba t).size ≤ 1048576) => split_c w' (ba t) 59 g ht (HG.out w' hb))
  have HAI := hid (fun w => allI_c w)
  have HLEN := hid (allTo_len 180)
  have HLEN2 : Hid (allI.length ≤ 180) := HLEN
  have HTA := hid (show allI.take allI.length = allI from List.take_length)
  have HTS := hid (fun k x (h : allI[k]? = some x) => take_step h)
  have HVX := hid (fun k x (h : allI[k]? = some x) => (allTo_valid (E := 180) (List.mem_of_getElem? h) : insValid x = true))
  obtain ⟨TS, hTS⟩ : ∃ TS, TS = cutL 124 (bytS s) := ⟨_, rfl⟩
  obtain ⟨N, hN⟩ : ∃ N, N = TS.length := ⟨_, rfl⟩
  have hN1 : N ≤ 1048577 := by rw [hN, hTS]; have := cutL_len 124 (bytS s); rw [size_bytS] at this; omega
  have HTL := hid (fun k (t : List UInt8) (h : TS[k]? = some t) => (show t.length ≤ 1048576 by have := cutL_size 124 (bytS s) (k := k) (x := t) (by rw [← hTS]; exact h); rw [size_bytS] at this; omega))
  have HIMP := hid (fun k (t : List UInt8) (h : TS[k]? = some t) (hf : okT t = false) => imp_no (s := s) (k := k) (t := t) (by rw [← hTS]; exact h) hf)
  have HTW := hid (fun k (t : List UInt8) (h : TS[k]? = some t) => take_step h)
  have HNN := hid hN
  have HRI := hid (show rowsI s = TS.map rowI by unfold rowsI; rw [hTS])
  have HRS := hid (rowsI_size s hs)
  have HAO := hid (show allOk s = TS.all okT by unfold allOk; rw [hTS])
  have HIR := hid (show impRes s = if allOk s = true ∧ progValid (rowsI s) = true then (rowsI s, true) else ([], false) from rfl)
  rw [← hTS, ← hN] at HSP
  obtain ⟨n, hn⟩ : ∃ n, n = allI.length := ⟨_, rfl⟩
  have HN := hid hn
  rw [← hn] at HAI HLEN2 HTA
  have hn180 := HLEN2.out
  clear hn hTS hN hg h0 HLEN
  have hmk := @run_makeMap Tryd.prog
  go_enter Tryd.func8, Tryd.ntmps8
  go_wp2_with fail
  refine (HAI.out _).mono ?_
  rintro e w1 ⟨la, lcap, rfl, hl1, hb1⟩
  have HL1 := hid (show w1.ownsRow (w.heap.size + 1) 46 4 (.slice la n lcap) n (insV allI) by simpa using hl1)
  have HM1 := hid (show TMap w1 w.heap.size 0 (allI.take 0) from TMap.below (World.ownsMap_made w Tryd.prog 9 insElem) hb1 (by simp))
  have HB1 := hid (((Below.refl w.heap.size w).alloc (Nat.le_refl _) (.map #[] 0)).trans (hb1.mono (by simp)))
  clear hl1 hb1
  go_wp2_with fail
  go_loopw [18] (fun i wr => ∃ k : Nat, k ≤ n ∧ i = .int .i64 k ∧ Hid (TMap wr w.heap.size k (allI.take k)) ∧ Hid (wr.ownsRow (w.heap.size + 1) 46 4 (.slice la n lcap) n (insV allI)) ∧ Hid (Below w.heap.size w wr)) (fun i _ => n - (intOf i).toNat)
  case atStart => exact ⟨0, Nat.zero_le _, rfl, HM1, HL1, HB1⟩
  case round =>
    obtain ⟨k, hk, rfl, HM, HL, HB⟩ := hrel
    obtain ⟨wo, rfl⟩ : ∃ wo : World, wo = wr := ⟨_, rfl⟩
    by_cases hlt : k < n
    · obtain ⟨bx, ox, x, hax, hbx, hx, hat⟩ := (Rd.own HL.out).ins k (by rw [← HN.out]; exact hlt)
      subst hax
      obtain ⟨c0, c1, c2, c3⟩ := hat
      have HXV := hid (HVX.out k x hx)
      have HST := hid (HTS.out k x hx)
      have HT := hid (fun w => instrText_c w x HXV.out)
      have HIL := hid (ba_ins x)
      rw [HIL.out] at HT
      obtain ⟨wA, hwA⟩ : ∃ wA, wA = wo.alloc (.cells #[.int .i64 x.op, .int .i64 x.loc, .int .i64 x.reg, .int .i64 x.val] 46) := ⟨_, rfl⟩
      have HBX := hid (show Box wA.drew wo.heap.size x by rw [hwA]; exact Box.new wo x _)
      have HMA := hid (show TMap wA.drew w.heap.size k (allI.take k) by rw [hwA]; exact HM.out.alloc _)
      have HBA := hid (show Below w.heap.size w wA.drew by rw [hwA]; have h := HB.out.alloc HB.out.size (.cells #[.int .i64 x.op, .int .i64 x.loc, .int .i64 x.reg, .int .i64 x.val] 46); exact ⟨h.os, h.tape, h.output, h.size, h.block⟩)
      have HLB := hid (show wA.drew.ownsRow (w.heap.size + 1) 46 4 _ n (insV allI) by rw [hwA]; exact HL.out.alloc _)
      have HSA := hid (show wo.heap.size < wA.drew.heap.size by rw [hwA]; show wo.heap.size < (wo.alloc _).heap.size; simp)
      have HI0 := hid (RegP.mk (S := fun _ => false) (ρ := fun _ => undef) HBX.out HMA.out HLB.out HBA.out HSA.out (fun h => by cases h))
      have HWA := hid hwA
      clear hx hbx hwA
      go_wp2_with fail
      rw [← HWA.out]
      refine FR.wp_region_free 4 (RegP w wo.heap.size x k _ n lcap) (by kernel_rfl) (by kernel_rfl) (by kernel_rfl) (fun _ => undef) HI0.out fun V => ?_
      (refine FR.frGo_pure _ rfl (fun K hK => ?_); go_simp; first | refine hK _ ?_ | refine ⟨_, fun W hW => rfl, hK _ ?_⟩ | refine ⟨_, fun W hW => ⟨rfl, rfl⟩, hK _ ?_⟩; clear hK K)
      refine FR.frGo_held _ rfl (fun w' => Box w' wo.heap.size x) (fun S ρ w' h _ => h.box) (fun K hK => ?_)
      go_simp
      refine ⟨x.v, fun W hW => ?_, hK _ ?_⟩
      · obtain ⟨q0, q1, q2, q3⟩ := hW
        go_simp
      clear hK K
      refine FR.frGo_act _ rfl (fun S ρ w' hI hS hp K hK => ?_) ?_
      · go_simp
        refine (HT.out _).mono ?_
        rintro e w5 ⟨rfl, hb5⟩
        exact hK _ _ (hI.call hb5)
      refine FR.frGo_held _ rfl (fun w' => Box w' wo.heap.size x) (fun S ρ w' h _ => h.box) (fun K hK => ?_)
      go_simp
      refine ⟨x.v, fun W hW => ?_, hK _ ?_⟩
      · obtain ⟨q0, q1, q2, q3⟩ := hW
        go_simp
      clear hK K
      refine FR.frGo_nil _ ?_
      intro S ρ w5 hI hS
      have h2 := hS 2 (by decide) (by kernel_rfl)
      have hV2 : V 2 = .string (ba (insL x)) := h2.2.symm.trans (hI.txt h2.1)
      rw [hV2]
      have HM5 := hid hI.map
      have HL5 := hid hI.row
      have HB5 := hid hI.bel
      clear hI hS h2 hV2
      refine wpMix_put rfl (.tmp 22) (.tmp 24) (.tmp 25) rfl w.heap.size k (allI.take k) x rfl HM5.out (by omega) rfl rfl ?_
      intro w6 hm6 hg6
      rw [← HST.out] at hm6
      have HM6 := hid hm6
      have HL6 := hid (own_kept HL5.out hg6 (fun b hb e => by
        have := (own_blk HL5.out b hb).1
        simp at e
        omega))
      have HB6 := hid (HB5.out.grown hg6 HB5.out.size (fun b hb => by simp at hb; omega))
      clear hm6 hg6
      refine wpMix_nil ?_
      go_wp2_with fail
      go_roundw
      case rel => exact ⟨k + 1, by omega, by go_num, HM6, HL6, HB6⟩
      case measure => simp [intOf]; omega
    · have HK := hid (show k = n by omega)
      rw [HK.out, HTA.out] at HM
      have hk' : decide ((k : Int) < (n : Int)) = false := by simp; omega
      have hk'' : decide (k < n) = false := by simp; omega
      clear hlt HL
      go_wp2_with fail
      refine (HSP.out _ HB.out).mono ?_
      rintro e w2 ⟨rfl, ht2, hb2⟩
      have HT2 := hid (own_base ht2 HB.out.size)
      have HM2 := hid (HM.out.below hb2 HM.out.lt)
      have HB2 := hid (HB.out.trans (hb2.mono HB.out.size))
      have HP2 := hid (OwP.none w2 (w.heap.size + 1) w2.heap.size)
      clear ht2 hb2
      obtain ⟨tb, htb⟩ : ∃ tb, tb = wo.heap.size := ⟨_, rfl⟩
      rw [← htb] at HT2
      have HTB := hid htb
      clear htb
      go_wp2_with fail
      rw [← HTB.out]
      go_loopw [7, 30] (fun v i wr => ∃ k : Nat, k ≤ N ∧ i = .int .i64 k ∧ (∃ b cap, v = .slice b k cap ∧ Hid (OwP wr (w.heap.size + 1) wr.heap.size b cap ((TS.take k).map rowI))) ∧ Hid (wr.ownsRow w.heap.size 9 1 (.slice (some ⟨tb, 0, none⟩) N N) N (sL TS)) ∧ Hid (TMap wr w.heap.size n allI) ∧ Hid ((TS.take k).all okT = true) ∧ Hid (Below w.heap.size w wr)) (fun _ i _ => N - (intOf i).toNat)
      case atStart => exact ⟨0, Nat.zero_le _, rfl, ⟨_, _, rfl, HP2⟩, HT2, HM2, hid rfl, HB2⟩
      case round =>
        obtain ⟨k, hk, rfl, ⟨b, cap, rfl, HP⟩, HT, HM, HOK, HB⟩ := hrel
        obtain ⟨wq, rfl⟩ : ∃ wq : World, wq = wr := ⟨_, rfl⟩
        have hbs := HB.out.size
        have hml := HM.out.lt
        have HPL := hid (show ((TS.take k).map rowI).length = k by rw [List.length_map, List.length_take, ← HNN.out]; omega)
        by_cases hlt : k < N
        · obtain ⟨t, ht⟩ : ∃ t, TS[k]? = some t := ⟨_, List.getElem?_eq_getElem (by rw [← HNN.out]; exact hlt)⟩
          have htc : wq.cell? ⟨tb, k, none⟩ = some (.string (ba t)) := (HT.out.cellAt k (by omega)).trans (sL_get ht)
          have htl := HTL.out k t ht
          have HTW1 := hid (HTW.out k t ht)
          have HIM := hid (HIMP.out k t ht)
          have HTK := hid ht
          have hlt' : (k : Int) < (N : Int) := by omega
          clear ht
          by_cases hte : t = []
          · have e0 : ((ba t).toList.isEmpty) = true := by rw [ByteArray.toList_eq, hte]; rfl
            have e0' : (ba t).toList = [] := by rw [ByteArray.toList_eq, hte]; rfl
            have HRW := hid (show (TS.take (k + 1)).map rowI = (TS.take k).map rowI ++ [([] : List Ins)] by
              rw [HTW1.out, List.map_append, hte]
              rfl)
            have HOK1 := hid (show (TS.take (k + 1)).all okT = true by
              rw [HTW1.out, List.all_append, HOK.out, hte]
              rfl)
            clear hte
            go_wp2_with (at_builtin; refine wpList_pushn rfl (.tmp 56) (.tmp 58) rfl (w.heap.size + 1) wq.heap.size b k cap ((TS.take k).map rowI) HPL.out rfl (HP.out.below ((Below.refl _ _).alloc (Nat.le_refl _) _)) none 0 0 [] rfl (World.ownsRow_nil _ _ _ 4) (fun q hq => by simp [blk] at hq) ⟨wq.heap.size, 0, none⟩ rfl (by simp) (by omega) (by simp; omega) ?_)
            intro a5 c5 w5 hP5 hg5
            have HP5 := hid (show OwP w5 (w.heap.size + 1) w5.heap.size a5 c5 ((TS.take (k + 1)).map rowI) by rw [HRW.out, List.map_take]; exact hP5)
            have hblk : ∀ q, blk b = some q → w.heap.size + 1 ≤ q := fun q hq => by
              obtain ⟨rs, _, ho, _⟩ := HP.out
              exact (own_blk ho q hq).1
            have HB5 := hid ((HB.out.alloc HB.out.size (.cells #[.slice none 0 0] 44)).grown hg5 (by simp; omega) (fun q hq => by have := hblk q hq; omega))
            have HT5 := hid (show w5.ownsRow w.heap.size 9 1 (.slice (some ⟨tb, 0, none⟩) N N) N (sL TS) by
              obtain ⟨rs, _, ho, _⟩ := HP.out
              exact own_other (HT.out.alloc _) (ho.alloc (.cells #[.slice none 0 0] 44)) (by decide) hg5)
            have HM5 := hid (show TMap w5 w.heap.size n allI from World.ownsMap.kept (HM.out.alloc (.cells #[.slice none 0 0] 44)) hg5 (fun e => by have := hblk _ e.symm; omega))
            clear hP5 hg5 hblk
            go_wp2_with fail
            go_roundw
            case rel => exact ⟨k + 1, by omega, by go_num, ⟨_, _, rfl, HP5⟩, HT5, HM5, HOK1, HB5⟩
            case measure => simp [intOf]; omega
          · have e0 : ((ba t).toList.isEmpty) = false := by
              rw [ByteArray.toList_eq]
              show t.isEmpty = false
              cases t with
              | nil => exact absurd rfl hte
              | cons _ _ => rfl
            have HSWt := hid (HSW.out wq HB.out t (by rw [ba_size]; exact htl))
            rw [bytS_ba] at HSWt
            have HNOW := hid (fun j l (hl : (cutL 59 t)[j]? = some l) hf => HIM.out (okT_no hte hl hf))
            have HRI1 := hid (show rowI t = (cutL 59 t).map decI by unfold rowI; rw [if_neg hte])
            have HOT := hid (show okT t = (cutL 59 t).all okW by unfold okT; simp [hte])
            obtain ⟨WS, hWS⟩ : ∃ WS, WS = cutL 59 t := ⟨_, rfl⟩
            obtain ⟨M, hM⟩ : ∃ M, M = WS.length := ⟨_, rfl⟩
            have hM1 : M ≤ 1048577 := by rw [hM, hWS]; have := cutL_len 59 t; omega
            have HWL := hid (fun j (l : List UInt8) (h : WS[j]? = some l) => (show l.length ≤ 1048576 by have := cutL_size 59 t (k := j) (x := l) (by rw [← hWS]; exact h); omega))
            rw [← hWS, ← hM] at HSWt
            rw [← hWS] at HNOW HRI1 HOT
            have HMM := hid hM
            have HWW := hid (fun j (l : List UInt8) (h : WS[j]? = some l) => take_step h)
            clear hte hWS hM
            go_wp2_with fail
            refine HSWt.out.mono ?_
            rintro e w3 ⟨rfl, hw3, hb3⟩
            have HW3 := hid (own_base hw3 HB.out.size)
            have HT3 := hid (own_below HT.out hb3)
            have HM3 := hid (HM.out.below hb3 HM.out.lt)
            have HP3 := hid (HP.out.below hb3)
            have HB3 := hid (HB.out.trans (hb3.mono HB.out.size))
            have HS3 := hid hb3.size
            have HL3 := hid (World.ownsRow_nil w3 (w.heap.size + 1) 46 4)
            clear hw3 hb3 htc
            obtain ⟨q, hq⟩ : ∃ q, q = wq.heap.size := ⟨_, rfl⟩
            have HQ := hid hq
            rw [← hq] at HW3 HS3 HP3
            have hqw : w.heap.size < q := by rw [hq]; exact hml
            clear hq
            go_wp2_with fail
            rw [← HQ.out]
            go_loopw [10, 39] (fun v i wr => ∃ j : Nat, j ≤ M ∧ i = .int .i64 j ∧ (∃ a0 c0, v = .slice a0 j c0 ∧ Hid (wr.ownsRow (w.heap.size + 1) 46 4 (.slice a0 j c0) j (insV ((WS.take j).map decI))) ∧ Hid (∀ z, blk a0 = some z → q ≤ z)) ∧ Hid (wr.ownsRow w.heap.size 9 1 (.slice (some ⟨q, 0, none⟩) M M) M (sL WS)) ∧ Hid (wr.ownsRow w.heap.size 9 1 (.slice (some ⟨tb, 0, none⟩) N N) N (sL TS)) ∧ Hid (TMap wr w.heap.size n allI) ∧ Hid (OwP wr (w.heap.size + 1) q b cap ((TS.take k).map rowI)) ∧ Hid (q ≤ wr.heap.size) ∧ Hid ((WS.take j).all okW = true) ∧ Hid (Below w.heap.size w wr)) (fun _ i _ => M - (intOf i).toNat)
            case atStart => exact ⟨0, Nat.zero_le _, rfl, ⟨_, _, rfl, HL3, hid (fun z hz => by simp [blk] at hz)⟩, HW3, HT3, HM3, HP3, HS3, hid rfl, HB3⟩
            case round =>
              obtain ⟨j, hj, rfl, ⟨a0, c0, rfl, HL, HLT⟩, HWr, HTr, HMr, HPr, HSr, HOKr, HBr⟩ := hrel
              obtain ⟨w2, rfl⟩ : ∃ w2 : World, w2 = wr := ⟨_, rfl⟩
              have hbs2 := HBr.out.size
              have HJL := hid (show ((WS.take j).map decI).length = j by rw [List.length_map, List.length_take, ← HMM.out]; omega)
              by_cases hjm : j < M
              · obtain ⟨l, hl⟩ : ∃ l, WS[j]? = some l := ⟨_, List.getElem?_eq_getElem (by rw [← HMM.out]; exact hjm)⟩
                have hwc : w2.cell? ⟨q, j, none⟩ = some (.string (ba l)) := (HWr.out.cellAt j (by omega)).trans (sL_get hl)
                have hll := HWL.out j l hl
                have HWW1 := hid (HWW.out j l hl)
                have HNW := hid (HNOW.out j l hl)
                have hjm' : (j : Int) < (M : Int) := by omega
                clear hl
                by_cases hok : okW l = true
                · have HLK := hid (lookI_yes hok)
                  have HOKW := hid hok
                  have HST := hid (show (WS.take (j + 1)).map decI = (WS.take j).map decI ++ [decI l] by rw [HWW1.out, List.map_append]; rfl)
                  have HOK1 := hid (show (WS.take (j + 1)).all okW = true by rw [HWW1.out, List.all_append, HOKr.out]; simp [hok])
                  obtain ⟨x, hx⟩ : ∃ x, x = decI l := ⟨_, rfl⟩
                  rw [← hx] at HLK HST
                  have HL4 := hid ((HL.out.alloc (.cells #[.int .i64 x.op, .int .i64 x.loc, .int .i64 x.reg, .int .i64 x.val] 46)).alloc (.cells #[.int .i64 x.op, .int .i64 x.loc, .int .i64 x.reg, .int .i64 x.val] 46))
                  have HB4 := hid ((HBr.out.alloc HBr.out.size (.cells #[.int .i64 x.op, .int .i64 x.loc, .int .i64 x.reg, .int .i64 x.val] 46)).alloc (by simp; omega) (.cells #[.int .i64 x.op, .int .i64 x.loc, .int .i64 x.reg, .int .i64 x.val] 46))
                  have HW4 := hid ((HWr.out.alloc (.cells #[.int .i64 x.op, .int .i64 x.loc, .int .i64 x.reg, .int .i64 x.val] 46)).alloc (.cells #[.int .i64 x.op, .int .i64 x.loc, .int .i64 x.reg, .int .i64 x.val] 46))
                  have HT4 := hid ((HTr.out.alloc (.cells #[.int .i64 x.op, .int .i64 x.loc, .int .i64 x.reg, .int .i64 x.val] 46)).alloc (.cells #[.int .i64 x.op, .int .i64 x.loc, .int .i64 x.reg, .int .i64 x.val] 46))
                  have HM4 := hid (World.ownsMap.alloc (World.ownsMap.alloc HMr.out (.cells #[.int .i64 x.op, .int .i64 x.loc, .int .i64 x.reg, .int .i64 x.val] 46)) (.cells #[.int .i64 x.op, .int .i64 x.loc, .int .i64 x.reg, .int .i64 x.val] 46))
                  have HP4 := hid ((HPr.out.below ((Below.refl _ _).alloc (Nat.le_refl _) (.cells #[.int .i64 x.op, .int .i64 x.loc, .int .i64 x.reg, .int .i64 x.val] 46))).below ((Below.refl _ _).alloc (Nat.le_refl _) (.cells #[.int .i64 x.op, .int .i64 x.loc, .int .i64 x.reg, .int .i64 x.val] 46)))
                  have HIL := hid (ins_laid (w2.alloc (.cells #[.int .i64 x.op, .int .i64 x.loc, .int .i64 x.reg, .int .i64 x.val] 46)) x 46)
                  clear hx hok
                  go_wp2_with (first | (at_lookup; refine wpList_look rfl (.tmp 44) (.tmp 45) rfl w.heap.size n l (by omega) rfl HMr.out rfl ?_; rw [HLK.out, HOKW.out]) | (at_builtin; refine wpList_append_ins rfl (.tmp 51) (.tmp 53) rfl (w.heap.size + 1) (.slice a0 j c0) j ((WS.take j).map decI) rfl HL4.out ⟨w2.heap.size + 1, 0, none⟩ x rfl (by simpa using HIL.out) (by omega) (by simp; omega) ?_; intro v4 w4 hown4 hgrow4 hat4))
                  obtain ⟨a4, c4, rfl, hb4⟩ := own_shape hown4
                  rw [ownBlock_slice] at hgrow4 hat4
                  rw [ownBlock_slice] at hat4
                  rw [← HST.out] at hown4
                  have HL5 := hid hown4
                  have hblk : ∀ z, blk a0 = some z → w.heap.size + 1 ≤ z := fun z hz => (own_blk HL.out z hz).1
                  have HT5 := hid (own_other HT4.out HL4.out (by decide) hgrow4)
                  have HW5 := hid (own_other HW4.out HL4.out (by decide) hgrow4)
                  have HP5 := hid (HP4.out.grown hgrow4 (fun z hz => HLT.out z hz))
                  have HB5 := hid (HB4.out.grown hgrow4 (by simp; omega) (fun z hz => by have := hblk z hz; omega))
                  have HM5 := hid (show TMap w4 w.heap.size n allI from World.ownsMap.kept HM4.out hgrow4 (fun e => by have := hblk _ e.symm; omega))
                  have HS5 := hid (show q ≤ w4.heap.size by have h1 := hgrow4.size; have h2 := HSr.out; simp at h1; omega)
                  have HLT5 := hid (show ∀ z, blk a4 = some z → q ≤ z from fun z hz => by
                    rcases hat4 with h | h
                    · exact HLT.out z (by rw [← h]; exact hz)
                    · rw [hz] at h; have h2 := HSr.out; simp at h; omega)
                  clear hown4 hgrow4 hat4 hb4 hblk
                  go_wp2_with fail
                  go_roundw
                  case rel => exact ⟨j + 1, by omega, by go_num, ⟨_, _, rfl, HL5, HLT5⟩, HW5, HT5, HM5, HP5, HS5, HOK1, HB5⟩
                  case measure => simp [intOf]; omega
                · have hok : okW l = false := by simpa using hok
                  have HR := hid (HNW.out hok)
                  have HOKW := hid hok
                  have HLKN := hid (show lookI l = ⟨0, 0, 0, 0⟩ by unfold lookI; rw [hok]; rfl)
                  clear hok
                  go_wp2_with (at_lookup; refine wpList_look rfl (.tmp 44) (.tmp 45) rfl w.heap.size n l (by omega) rfl HMr.out rfl ?_; rw [HLKN.out, HOKW.out])
                  go_ret2
                  rw [HR.out]
                  exact ⟨_, _, rfl, OwP.none _ _ _, HBr.out.alloc HBr.out.size _⟩
              · have HJM := hid (show j = M by omega)
                have HWT := hid (show WS.take M = WS by rw [HMM.out, List.take_length])
                rw [HJM.out, HWT.out, ← HRI1.out] at HL
                rw [HJM.out, HWT.out, ← HRI1.out] at HJL
                rw [HJM.out, HWT.out, ← HOT.out] at HOKr
                have HRW := hid (show (TS.take (k + 1)).map rowI = (TS.take k).map rowI ++ [rowI t] by
                  rw [HTW1.out, List.map_append]
                  rfl)
                have HOK1 := hid (show (TS.take (k + 1)).all okT = true by
                  rw [HTW1.out, List.all_append, HOK.out]
                  simp [HOKr.out])
                have d1 : decide ((j : Int) < (M : Int)) = false := by simp; omega
                have d1' : decide (j < M) = false := by simp; omega
                rw [HJM.out] at d1 d1' ⊢
                have hws := HSr.out
                clear hjm
                go_wp2_with (at_builtin; refine wpList_pushn rfl (.tmp 56) (.tmp 58) rfl (w.heap.size + 1) q b k cap ((TS.take k).map rowI) HPL.out rfl (HPr.out.below ((Below.refl _ _).alloc (Nat.le_refl _) _)) a0 c0 M (rowI t) HJL.out (HL.out.alloc _) HLT.out ⟨w2.heap.size, 0, none⟩ rfl (by simp) (by omega) (by simp; omega) ?_)
                intro a5 c5 w5 hP5 hg5
                have HP5 := hid (show OwP w5 (w.heap.size + 1) w5.heap.size a5 c5 ((TS.take (k + 1)).map rowI) by rw [HRW.out, List.map_take]; exact hP5)
                have hblk : ∀ z, blk b = some z → w.heap.size + 1 ≤ z := fun z hz => by
                  obtain ⟨rs, _, ho, _⟩ := HPr.out
                  exact (own_blk ho z hz).1
                have HB5 := hid ((HBr.out.alloc HBr.out.size (.cells #[.slice a0 M c0] 44)).grown hg5 (by simp; omega) (fun z hz => by have := hblk z hz; omega))
                have HT5 := hid (show w5.ownsRow w.heap.size 9 1 (.slice (some ⟨tb, 0, none⟩) N N) N (sL TS) by
                  obtain ⟨rs, _, ho, _⟩ := HPr.out
                  exact own_other (HTr.out.alloc _) (ho.alloc (.cells #[.slice a0 M c0] 44)) (by decide) hg5)
                have HM5 := hid (show TMap w5 w.heap.size n allI from World.ownsMap.kept (HMr.out.alloc (.cells #[.slice a0 M c0] 44)) hg5 (fun e => by have := hblk _ e.symm; omega))
                clear hP5 hg5 hblk
                go_wp2_with fail
                go_roundw
                case rel => exact ⟨k + 1, by omega, by go_num, ⟨_, _, rfl, HP5⟩, HT5, HM5, HOK1, HB5⟩
                case measure => simp [intOf]; omega
        · have HKN := hid (show k = N by omega)
          have HTT := hid (show TS.take N = TS by rw [HNN.out, List.take_length])
          rw [HKN.out, HTT.out, ← HRI.out] at HP HPL
          rw [HKN.out, HTT.out, ← HAO.out] at HOK
          have HPV := hid (pvI_up wq b cap (rowsI s) HP.out.rd (Nat.le_trans HRS.out (by decide)))
          rw [HPL.out] at HPV
          have d1 : decide ((k : Int) < (N : Int)) = false := by simp; omega
          have d1' : decide (k < N) = false := by simp; omega
          rw [HKN.out] at d1 d1' ⊢
          clear hlt
          by_cases hv : progValid (rowsI s) = true
          · have HR := hid (show impRes s = (rowsI s, true) by rw [HIR.out, if_pos ⟨HOK.out, hv⟩])
            rw [hv] at HPV
            clear hv
            go_wp2_with fail
            refine HPV.out.mono ?_
            rintro e w5 ⟨rfl, hb5⟩
            have HP5 := hid ((HP.out.below hb5).up hb5.size)
            have HB5 := hid (HB.out.trans (hb5.mono HB.out.size))
            clear hb5
            go_wp2
            go_ret2
            rw [HR.out]
            exact ⟨_, _, by show _ = Ending.returned (.tuple #[.slice b (rowsI s).length cap, .bool true]); rw [HPL.out]; rfl, HP5.out.down (Nat.le_succ _), HB5.out⟩
          · have hv : progValid (rowsI s) = false := by simpa using hv
            have HR := hid (show impRes s = ([], false) by rw [HIR.out, if_neg (fun h => by rw [hv] at h; cases h.2)])
            rw [hv] at HPV
            clear hv
            go_wp2_with fail
            refine HPV.out.mono ?_
            rintro e w5 ⟨rfl, hb5⟩
            have HB5 := hid (HB.out.trans (hb5.mono HB.out.size))
            clear hb5
            go_wp2
            go_ret2
            rw [HR.out]
            exact ⟨_, _, rfl, OwP.none _ _ _, HB5.out⟩
theorem ppI_x (w : World) (s : ByteArray) (g : Int) (hs : s.size ≤ 1048576) (hg : w.cell? ⟨0, 0, none⟩ = some (.int .i64 g)) : Calls Tryd.prog 8 #[.string s] w (RetPB w (parRes s)) := by
  rw [← res_eq]
  exact ppI_c w s g hs hg
theorem par_size (s : ByteArray) : sizeP (parRes s).1 ≤ 1048576 := by
  unfold parRes
  split
  · exact parsP_size s
  · exact Nat.zero_le _
end Go.Proofs.YtmeoclkngjboiaaDoor
namespace Go.Proofs.YtmeoclkngjboiaaDoor
open Go
set_option linter.unusedVariables false
variable {H : Type} {enc : TypeId × Value → H}
theorem ret_and_shaped {a : Assume} {C : Checked} {os : Os} {f : FuncId} {fn : Func} {s : ChangeSpec} {conds : List PathCond} {apart fresh handsOn again : Bool} {X : World → Array Value → Prop}
    (hX : ∀ (w w' : World) (args : Array Value), w.heap = w'.heap → X w args → X w' args)
    (own : ownKnob C.prog.godebug = none) (started : os.Started) (noInit : C.prog.inits.idxOf? f = none) (hfn : C.prog.funcs[f]? = some fn)
    (witness : ∃ (w : World) (tape : Tape) (i : Input), w.os = os ∧ (w.forCall tape i).Shaped C.prog ∧ i.vars = [] ∧ Input.okWide C.prog (w.forCall tape i) .any w.heap.size f i ∧
      ((s.pre enc C.prog fn conds apart (w.forCall tape i).memory i.args ∧ X (w.forCall tape i).memory i.args) ∧ sizedMet enc C.prog fn (OpenSpec.ofChange s) apart (w.forCall tape i).memory i.args) ∧ a.holds C.prog (lone (Frame.enter C.prog f i.args .normal) [] (w.forCall tape i)))
    (contract : ∀ (W : World) (base : Nat) (args : Array Value) (ds gs : List (DataW H)) (before : List MemPlace),
      (∀ (j : Nat) t v, fn.params[j]? = some t → args[j]? = some v → Value.okWide C.prog W .any base t v) →
      DataW.Whole enc C.prog fn.params.toList s.vars apart W args.toList ds gs before → W.ShapedOpen C.prog →
      Calls C.prog f args W fun e W' => ∃ v, e = .returned v ∧ s.post enc C.prog fn apart fresh handsOn again W args v W') :
    ReturnsInHanded a C os f .any (fun w args => (s.pre enc C.prog fn conds apart w args ∧ X w args) ∧ sizedMet enc C.prog fn (OpenSpec.ofChange s) apart w args) (s.post enc C.prog fn apart fresh handsOn again) := by
  refine returnsInHanded_of_calls own started noInit witness ?_
  intro w tape i _ hsh _ hok hpre hholds
  obtain ⟨_, _, _, fn', hfn', _, _, _, _, hval⟩ := hok
  have e : fn' = fn := Option.some.inj (hfn'.symm.trans hfn)
  subst e
  obtain ⟨⟨⟨ds, gs, before, hw, hc⟩, hx⟩, hz⟩ := hpre
  have hw' := DataW.Whole.of_heap (w' := w.forCall tape i) (by rfl) hw
  refine (contract (w.forCall tape i) w.heap.size i.args ds gs before hval hw' hsh).mono fun e W' ⟨v, he, hp⟩ => ?_
  subst he
  exact ChangeSpec.post_blind hp
theorem maxLen_cell {W : World} (h : W.ShapedOpen Tryd.prog) : ∃ m, W.cell? ⟨0, 0, none⟩ = some (.int .i64 m) :=
  cell_of_shapedOpen_int (t := 3) (zero := #[.int .i64 0]) h (of_decide_eq_true (by kernel_rfl)) (by kernel_rfl) rfl (by kernel_rfl) (by kernel_rfl) Tryd.underlying3
end Go.Proofs.YtmeoclkngjboiaaDoor
