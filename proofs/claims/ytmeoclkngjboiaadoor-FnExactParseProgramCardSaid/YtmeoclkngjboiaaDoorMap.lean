/-
  PROVED HERE: the map of texts that impl.ParseProgram makes: what it holds, its store and its look-up at the operation. CONDITIONS: as each theorem states.
-/
import Derived.Test.YtmeoclkngjboiaaDoorAll
import Derived.Test.YtmeoclkngjboiaaDoorFree
import Derived.Maps.OwnSet
namespace Go.Proofs.YtmeoclkngjboiaaDoor
open Go.RowKit Go.Maps
set_option linter.unusedVariables false
set_option linter.unusedSimpArgs false

abbrev insD (x : Ins) : DataW Unit := .agg [.lit (.int .i64 x.op), .lit (.int .i64 x.loc), .lit (.int .i64 x.reg), .lit (.int .i64 x.val)]
theorem insV_inj {x y : Ins} (h : x.v = y.v) : x = y := by
  obtain ⟨a, b, c, d⟩ := x
  obtain ⟨a', b', c', d'⟩ := y
  simp at h
  obtain ⟨rfl, rfl, rfl, rfl⟩ := h
  rfl
theorem insD_inj {x y : Ins} (h : insD x = insD y) : x = y := by
  obtain ⟨a, b, c, d⟩ := x
  obtain ⟨a', b', c', d'⟩ := y
  simp at h
  obtain ⟨rfl, rfl, rfl, rfl⟩ := h
  rfl
open Classical in
noncomputable def insElem (v : Value) : Option (DataW Unit × List MemPlace) := if h : ∃ x : Ins, v = x.v then some (insD (Classical.choose h), []) else none
theorem insElem_mk (x : Ins) : insElem x.v = some (insD x, []) := by
  have h : ∃ y : Ins, x.v = y.v := ⟨x, rfl⟩
  unfold insElem
  rw [dif_pos h, ← insV_inj (Classical.choose_spec h)]
theorem insElem_inv {v : Value} {x : Ins} {ps : List MemPlace} (h : insElem v = some (insD x, ps)) : v = x.v := by
  unfold insElem at h
  split at h
  · rename_i he
    simp only [Option.some.injEq, Prod.mk.injEq] at h
    rw [Classical.choose_spec he, insD_inj h.1]
  · cases h
def Dt (L : List Ins) : DataW Unit := L.foldl (fun D x => D.put (.string (insL x)) (insD x)) (.map [])
theorem Dt_snoc (L : List Ins) (x : Ins) : Dt (L ++ [x]) = (Dt L).put (.string (insL x)) (insD x) := by simp [Dt, List.foldl_append]
theorem Dt_map (L : List Ins) : IsMap (Dt L) := by
  have : ∀ (L : List Ins) (D : DataW Unit), IsMap D → IsMap (L.foldl (fun D x => D.put (.string (insL x)) (insD x)) D) := by
    intro L
    induction L with
    | nil => intro D h; exact h
    | cons x L ih => intro D h; exact ih _ (h.put _ _)
  exact this L _ isMap_empty
theorem Dt_at (l : List UInt8) (z : DataW Unit) : ∀ (n : Nat) (L : List Ins), L.length = n → (∀ x ∈ L, insValid x = true) → (Dt L).atKey (.string l) z = (if L.any (fun x => decide (insL x = l)) then insD (decI l) else z) ∧ has (Dt L) (.string l) = L.any (fun x => decide (insL x = l))
  | 0, L, hn, _ => by
    have e : L = [] := List.eq_nil_of_length_eq_zero hn
    subst e
    exact ⟨rfl, rfl⟩
  | n + 1, L, hn, hv => by
    rcases List.eq_nil_or_concat L with e | ⟨M, x, e⟩
    · subst e
      simp at hn
    · rw [List.concat_eq_append] at e
      subst e
      have ih := Dt_at l z n M (by simpa using hn) fun y hy => hv y (List.mem_append_left _ hy)
      have hx := hv x (by simp)
      rw [Dt_snoc, List.any_append]
      by_cases h : insL x = l
      · have hk : (Lit.string (insL x)) = .string l := by rw [h]
        rw [hk, atKey_put_same (k := Lit.string l) (Dt_map M) trivial, has_put_same (k := Lit.string l) (Dt_map M) trivial]
        have hd : decI l = x := by rw [← h]; exact (ins_ok hx).1
        simp [h, hd]
      · have hk : (Lit.string l) ≠ .string (insL x) := fun e => h (Lit.string.inj e).symm
        rw [atKey_put_other hk, has_put_other hk, ih.1, ih.2]
        simp [h]
theorem mem_allTo {e : Nat} (hv : insValid (insAt e) = true) : ∀ {E : Nat}, e < E → insAt e ∈ allTo E
  | 0, h => by omega
  | E + 1, h => by
    show insAt e ∈ allTo E ++ _
    by_cases he : e = E
    · subst he
      rw [if_pos hv]
      simp
    · exact List.mem_append_left _ (mem_allTo hv (by omega))
theorem allTo_valid : ∀ {E : Nat} {x : Ins}, x ∈ allTo E → insValid x = true
  | 0, x, h => by simp [allTo] at h
  | E + 1, x, h => by
    have h : x ∈ allTo E ++ if insValid (insAt E) then [insAt E] else [] := h
    rcases List.mem_append.1 h with h | h
    · exact allTo_valid h
    · split at h
      · rw [List.mem_singleton] at h
        subst h
        assumption
      · simp at h
theorem mem_allI {x : Ins} (h : insValid x = true) : x ∈ allI := by
  obtain ⟨o, l, r, v, rfl, ho, hl, hr, hv⟩ := ins_nat h
  have e := insAt_eq o l r v (by omega) (by omega) (by omega) (by omega)
  rw [← e] at h ⊢
  exact mem_allTo h (by omega)
theorem allI_any (l : List UInt8) : allI.any (fun x => decide (insL x = l)) = okW l := by
  apply Bool.eq_iff_iff.2
  rw [List.any_eq_true]
  constructor
  · rintro ⟨x, hx, hl⟩
    rw [decide_eq_true_eq] at hl
    rw [← hl]
    exact okW_ins (allTo_valid hx)
  · intro h
    unfold okW at h
    simp only [Bool.and_eq_true, decide_eq_true_eq] at h
    exact ⟨decI l, mem_allI h.1, by simpa using h.2⟩
def lookI (l : List UInt8) : Ins := if okW l then decI l else ⟨0, 0, 0, 0⟩
theorem Dt_all (l : List UInt8) : (Dt allI).atKey (.string l) (insD ⟨0, 0, 0, 0⟩) = insD (lookI l) ∧ has (Dt allI) (.string l) = okW l := by
  have h := Dt_at l (insD ⟨0, 0, 0, 0⟩) _ allI rfl fun x hx => allTo_valid hx
  rw [allI_any] at h
  refine ⟨?_, h.2⟩
  rw [h.1]
  unfold lookI
  split <;> rfl

theorem strLaw : Keyed Tryd.prog 9 := string_keyed Tryd.underlying9
theorem zeroIns (w : World) : (zeroValue 46).run Tryd.prog w = .ok (Ins.v ⟨0, 0, 0, 0⟩) w := by kernel_rfl
abbrev TMap (w : World) (b n : Nat) (L : List Ins) : Prop := w.ownsMap Tryd.prog 9 insElem b n (Dt L)
theorem TMap.below {w w' : World} {B b n : Nat} {L : List Ins} (h : TMap w b n L) (hb : Below B w w') (hlt : b < B) : TMap w' b n L := by
  obtain ⟨es, clock, h1, h2⟩ := h
  exact ⟨es, clock, (hb.block b hlt).trans h1, h2⟩
theorem key_ba (l : List UInt8) (hl : l.length ≤ 2000000) : keyOf Tryd.prog 9 (.string (ba l)) = some (.string l) := by
  have := Go.WideMaps.keyOf_string_mk Tryd.underlying9 (s := ba l) (by rw [ba_size]; unfold maxLen; omega)
  exact this
theorem wpMix_put {ops : Array Oper} {Q : Act → World → Prop} {a : Act} {w : World} {o : Oper} {rest : List Oper} (hg : o.guard = none)
    (m k v : Operand) (hop : o.op = Op.mapUpdate 48 m k v) (b n : Nat) (L : List Ins) (x : Ins)
    (hm : a.eval m = .map (some b)) (hown : TMap w b n L) (hn : n < 100000) (hk : a.eval k = .string (ba (insL x))) (hv : a.eval v = x.v)
    (h : ∀ w', TMap w' b (n + 1) (L ++ [x]) → w.grownBy w' (some b) → wpMix Tryd.prog ops Q rest (a.put o.dst undef) w') : wpMix Tryd.prog ops Q (o :: rest) a w := by
  refine wpMix_act hg (by simp [actsB, hop]) fun K hK => ?_
  obtain ⟨w', hrun, r1, r2⟩ := hown.update strLaw Tryd.underlying48 (by unfold maxLen; omega) (key_ba (insL x) (by have := insL_le x; omega)) (insElem_mk x)
  rw [← Dt_snoc] at r1
  unfold Oper.wp
  simp [execOp, hop, hm, hk, hv, hrun, Result.andThen]
  exact hK _ _ (h w' r1 r2)
theorem wpList_look {ops : Array Oper} {Q : Exit → Act → World → Prop} {a : Act} {w : World} {o : Oper} {rest : List Oper} (hg : o.guard = none)
    (m k : Operand) (hop : o.op = Op.lookup 48 m k true) (b n : Nat) (l : List UInt8) (hl : l.length ≤ 2000000)
    (hm : a.eval m = .map (some b)) (hown : TMap w b n allI) (hk : a.eval k = .string (ba l))
    (hK : wpList Tryd.prog ops Q rest (a.put o.dst (.tuple #[(lookI l).v, .bool (okW l)])) w) : wpList Tryd.prog ops Q (o :: rest) a w := by
  have hd := Dt_all l
  refine wpList_lookup_own_ok w hg m k _ hop 9 46 strLaw Tryd.underlying48 insElem (zeroIns w) (insD ⟨0, 0, 0, 0⟩) [] (insElem_mk _) b n (Dt allI) hm hown _ _ hk (key_ba l hl) fun v ps hv => ?_
  rw [hd.1] at hv
  rw [hd.2, insElem_inv hv]
  exact hK
theorem OwP.none (w : World) (base top : Nat) : OwP w base top Option.none 0 [] :=
  ⟨[], rfl, World.ownsRow_nil w base _ 1, fun k r xs h => by simp at h, fun i k r s b h => by simp at h, fun k r b h => by simp at h, fun b hb => by simp [blk] at hb⟩
end Go.Proofs.YtmeoclkngjboiaaDoor
