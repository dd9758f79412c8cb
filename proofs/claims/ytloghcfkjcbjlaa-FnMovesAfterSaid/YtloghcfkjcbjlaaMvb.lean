/-
  PROVED HERE: what laws.wmIn does; small facts for the laws on moves: guards in a region that is walked in text order, append of a row that can be read. CONDITIONS: as each theorem states.
-/
import Derived.Test.YtloghcfkjcbjlaaSdm
import Derived.Test.YtloghcfkjcbjlaaWm
namespace Go.Proofs.Ytloghcfkjcbjlaa
open Go.RowKit
set_option linter.unusedVariables false
set_option linter.unusedSimpArgs false

set_option maxHeartbeats 1600000 in
theorem wmIn_c (w : World) (a : Option Addr) (cap : Nat) (xs : List Int) (n : Int) (h : Rd w a (ints xs)) (hl : xs.length ≤ 1048576) :
    Calls Try.prog 16 #[.slice a xs.length cap, .int .i64 n] w fun e w' => e = .returned (.bool (decide (n ∈ xs))) ∧ Below w.heap.size w w' := by
  have HR := hid h
  have HIN := hid (fun k (hk : xs[k]? = some n) => show decide (n ∈ xs) = true from decide_eq_true (List.mem_of_getElem? hk))
  have HOUT := hid (fun (hk : ∀ j, xs[j]? ≠ some n) => show decide (n ∈ xs) = false from decide_eq_false fun hm => by
    obtain ⟨i, hi⟩ := List.mem_iff_getElem?.1 hm
    exact hk i hi)
  obtain ⟨B, hB⟩ : ∃ B, B = decide (n ∈ xs) := ⟨_, rfl⟩
  rw [← hB] at HIN HOUT ⊢
  obtain ⟨m, hm⟩ : ∃ m, m = xs.length := ⟨_, rfl⟩
  have HM := hid hm
  rw [← hm] at hl ⊢
  clear hm hB h
  go_enter Try.func16, Try.ntmps16
  go_wp2_with fail
  go_loop [5] (fun i => ∃ k : Nat, k ≤ m ∧ i = .int .i64 k ∧ Hid (∀ j, j < k → xs[j]? ≠ some n)) (fun i => m - (intOf i).toNat)
  case atStart => exact ⟨0, Nat.zero_le _, rfl, hid (fun j hj => by omega)⟩
  case round =>
    obtain ⟨k, hk, rfl, HK⟩ := hrel
    by_cases hlt : k < m
    · obtain ⟨b, off, hab, hb, hc⟩ := HR.out.int k (by rw [← HM.out]; exact hlt)
      subst hab
      obtain ⟨x, hx⟩ : ∃ x, x = xs[k]'(by rw [← HM.out]; exact hlt) := ⟨_, rfl⟩
      rw [← hx] at hc
      have HX := hid (show xs[k]? = some x by rw [hx]; exact List.getElem?_eq_getElem _)
      clear hx
      by_cases hxn : x = n
      · have HF := hid (HIN.out k (by rw [HX.out, hxn]))
        have e1 : (x == n) = true := by simpa using hxn
        clear hxn
        go_wp2_with fail
        go_ret
        exact ⟨ret_bool HF.out.symm, Below.refl _ _⟩
      · have e1 : (x == n) = false := by simpa using hxn
        have HK2 := hid (show ∀ j, j < k + 1 → xs[j]? ≠ some n from fun j hj e => by
          by_cases hjk : j = k
          · subst hjk; rw [HX.out] at e; exact hxn (Option.some.inj e)
          · exact HK.out j (by omega) e)
        clear hxn
        go_wp2_with fail
        go_round
        case rel => exact ⟨k + 1, by omega, by go_num, HK2⟩
        case measure => simp [intOf]; omega
    · have HF := hid (HOUT.out fun j e => by
        have := (List.getElem?_eq_some_iff.1 e).1
        have := HM.out
        exact HK.out j (by omega) e)
      go_wp2_with fail
      go_ret
      exact ⟨ret_bool HF.out.symm, Below.refl _ _⟩
theorem rd_take {w : World} {a : Option Addr} {xs : List Int} (h : Rd w a (ints xs)) (k : Nat) : Rd w a (ints (xs.take k)) := by
  rcases h with h | ⟨b, off, e, hlt, hc⟩
  · left
    cases xs with
    | nil => simp
    | cons x xs => cases h
  · refine .inr ⟨b, off, e, hlt, fun j u hj => hc j u ?_⟩
    have e : ints (xs.take k) = (ints xs).take k := by simp [ints, List.map_take]
    rw [e, List.getElem?_take] at hj
    split at hj
    · exact hj
    · cases hj
namespace MJ
variable {J : World → Prop} {P : Program} {ops : Array Oper}
/-- Guarded, and the guard says yes; or says no. -/
theorem wpMix_yes {Q : Act → World → Prop} {a : Act} {w : World} {d : Option Tmp} {op : Op} {t : TypeId} {p : String} {e : Array Edge} {g : Nat × Bool} {rest : List Oper} (hw : yielded ops a.tmps g.1 = some g.2)
    (h : wpMix J P ops Q ({ dst := d, op := op, type := t, pos := p, after := e, guard := none } :: rest) a w) : wpMix J P ops Q ({ dst := d, op := op, type := t, pos := p, after := e, guard := some g } :: rest) a w := by
  unfold wpMix mixOp at h ⊢
  rw [if_pos (by simp [Region.wanted])] at h
  rw [if_pos (by simp [Region.wanted, hw])]
  exact h
theorem wpMix_no {Q : Act → World → Prop} {a : Act} {w : World} {d : Option Tmp} {op : Op} {t : TypeId} {p : String} {e : Array Edge} {g : Nat × Bool} {rest : List Oper} (hw : (yielded ops a.tmps g.1 == some g.2) = false)
    (h : wpMix J P ops Q rest (a.put d undef) w) : wpMix J P ops Q ({ dst := d, op := op, type := t, pos := p, after := e, guard := some g } :: rest) a w := by
  unfold wpMix mixOp
  rw [if_neg (by simp [Region.wanted]; simpa using hw)]
  exact h
/-- An operation that may be guarded and does not act. -/
theorem wpMix_any {Q : Act → World → Prop} {a : Act} {w : World} {o : Oper} {rest : List Oper} (ha : actsB o = false) (hJ : J w)
    (h : ∀ K : Act → Prop, (∀ a, Hid (wpMix J P ops Q rest a w) → K a) → if Region.wanted o (yielded ops a.tmps) then o.quiet P a J K else K (a.put o.dst undef)) : wpMix J P ops Q (o :: rest) a w := by
  have h0 := h _ fun _ h => h.out
  unfold wpMix mixOp
  split at h0
  · rename_i hw
    rw [if_pos hw, if_neg (by simp [ha])]
    obtain ⟨v, hv, hk⟩ := h0
    exact ⟨v, quiet_value ha (hv w hJ), fun _ w' hj => quiet_value ha (hv w' hj), hk⟩
  · rename_i hw
    rw [if_neg hw]
    exact h0
/-- An operation whose guard says no. -/
theorem wpMix_skip {Q : Act → World → Prop} {a : Act} {w : World} {o : Oper} {rest : List Oper}
    (h : ∀ K : Act → Prop, (∀ a, Hid (wpMix J P ops Q rest a w) → K a) → if Region.wanted o (yielded ops a.tmps) then False else K (a.put o.dst undef)) : wpMix J P ops Q (o :: rest) a w := by
  have h0 := h _ fun _ h => h.out
  unfold wpMix mixOp
  split at h0
  · exact h0.elim
  · rename_i hw
    rw [if_neg hw]
    exact h0
end MJ
theorem oper_append_rx {P : Program} {o : Oper} {a : Act} {w : World} {K : Act → World → Prop} {Q : Exit → Act → World → Prop} (s x : Operand) (t : TypeId)
    (ho : o.op = .call { callee := .builtin .append, args := #[s, x], argTypes := #[t, t] })
    (base : Nat) (e : TypeId) (z : Value) (size bytes : Nat) (ht : P.underlying t = some (.slice e)) (hi : (P.info? e).map (fun i => (i.zero, i.size, i.bytes)) = some (some z, size, bytes)) (hzs : z.cells.size = size) (hsz : 0 < size)
    (v : Value) (n : Nat) (xs : List Value) (hs : a.eval s = v) (hown : w.ownsRow base e size v n xs)
    (src : Option Addr) (m c : Nat) (cs : List Value) (hx : a.eval x = .slice src m c) (hrd : Rd w src cs) (hl : cs.length = m * size) (h1 : ∀ u ∈ cs, u.oneCell' = true)
    (h63 : n + m ≤ 1000000000) (hbytes : bytes ≤ 1000) (hbase : base ≤ w.heap.size)
    (h : ∀ v' w', w'.ownsRow base e size v' (n + m) (xs ++ cs) → w.grownBy w' v.ownBlock → K (a.put o.dst v') w') : o.wp P a w K Q := by
  obtain ⟨v', w', hrun, q1, q2, _⟩ := run_append_rd (P := P) w t o.type base e z size bytes ht hi hzs hsz v n xs hown src m c cs hrd hl h1 h63 hbytes hbase
  unfold Oper.wp execOp
  simp only [ho, resolve, invoke, builtin, Sem.run_bind, Sem.run_pure, Result.andThen_ok, List.map_toArray, List.map_cons, List.map_nil, hs, hx, hrun]
  exact h v' w' q1 q2
/-- What the acts of 'append(append([]int{}, ms...), list[i])' have made. -/
def IsInt (B : Nat) (x : Int) (w : World) (v : Value) : Prop := ∃ H, v = .slice (some ⟨H, 0, none⟩) 1 1 ∧ B ≤ H ∧ H < w.heap.size ∧ w.cell? ⟨H, 0, none⟩ = some (.int .i64 x)
theorem IsInt.below {B : Nat} {x : Int} {w w' : World} {v : Value} (h : IsInt B x w v) (hb : Below w.heap.size w w') : IsInt B x w' v := by
  obtain ⟨H, h1, h2, h3, h4⟩ := h
  exact ⟨H, h1, h2, Nat.lt_of_lt_of_le h3 hb.size, (hb.cell (p := ⟨H, 0, none⟩) h3).trans h4⟩
theorem IsInt.new {B : Nat} {x : Int} {w : World} (hB : B ≤ w.heap.size) (t : TypeId) : IsInt B x (w.alloc (.cells #[.int .i64 x] t)) (.slice (some ⟨w.heap.size, 0, none⟩) 1 1) :=
  ⟨_, rfl, hB, by simp, by simp⟩
def nxG (k : Nat) : Nat := if k ≤ 2 then 0 else 1
def nxQ (w0 : World) (ms : List Int) (x : Int) (k : Nat) (w : World) (v : Value) : Prop :=
  if k = 0 then IsLit w0 w 3 v else if k = 2 then IsOwn w0.heap.size ms w v else if k = 7 then IsInt w0.heap.size x w v else True
theorem nxQ_stays (w0 : World) (ms : List Int) (x : Int) : Stays (nxQ w0 ms x) := by
  intro k w w' v h hb
  unfold nxQ at h ⊢
  repeat' split
  all_goals first | trivial | skip
  all_goals simp_all only [if_true, if_false]
  all_goals first | exact IsLit.below h hb | exact IsOwn.below h hb | exact IsInt.below h hb
/-- The call of the first region of MovesPrefix. -/
def PfI (w0 : World) (t : List Int) (S : Nat → Bool) (ρ : Nat → Value) (w : World) : Prop := Below w0.heap.size w0 w ∧ (S 5 = true → ∃ a c, ρ 5 = .slice a t.length c ∧ Rd w a (ints t))
end Go.Proofs.Ytloghcfkjcbjlaa
