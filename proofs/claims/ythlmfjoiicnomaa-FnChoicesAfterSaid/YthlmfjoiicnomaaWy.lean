/-
  PROVED HERE: plain facts on choices: how many there are when a program is done, that it does not get stuck, that they stand in ascending order. what laws.wmIn does; small facts for the laws on moves: guards in a region that is walked in text order, append of a row that can be read. CONDITIONS: as each theorem states.
-/
import Derived.Test.YthlmfjoiicnomaaVm
import Derived.Test.YthlmfjoiicnomaaVr
import Derived.Test.YthlmfjoiicnomaaWm
namespace Go.Proofs.Ythlmfjoiicnomaa
open Go.RowKit
set_option linter.unusedVariables false
set_option linter.unusedSimpArgs false

theorem do5x_pc (s : Vs) (t : Nat) (x : Ins) (k : Nat) (val : Int) : (do5x s t x k val).st.pc = s.st.pc.set t (s.st.pc.getD t 0 + 1) := by
  unfold do5x
  split
  · rfl
  · split
    · rfl
    · split <;> rfl
theorem sum_step {p : Prg} (hv : Shape p) {s : Vs} {m : Int} (h : Good5 p s) (hm : m ∈ moves5 p s) : (doC p s m).st.pc.sum = s.st.pc.sum + 1 := by
  obtain ⟨c, rfl, hc⟩ := (mem_moves5 h hv m).1 hm
  obtain ⟨xs, i, x, l, r, hp, hi, _⟩ := h.next hv hc
  unfold doC do5
  rw [Int.toNat_natCast, do5x_pc]
  exact sum_inc (List.getElem?_eq_some_iff.1 hi).1
theorem sum_follow {p : Prg} (hv : Shape p) : ∀ (ms : List Int) (s s' : Vs), Good5 p s → Proofs.Ythlmfjoiicnomaa.follow (moves5 p) (doC p) s ms = some s' → s'.st.pc.sum = s.st.pc.sum + (ms.length : Int)
  | [], s, s', h, e => by simp [Proofs.Ythlmfjoiicnomaa.follow] at e; rw [e]; simp
  | m :: ms, s, s', h, e => by
    simp only [Proofs.Ythlmfjoiicnomaa.follow] at e
    split at e
    · rename_i hm
      have h1 := sum_follow hv ms _ _ (stepC hv h hm) e
      have h2 := sum_step hv h hm
      rw [List.length_cons]
      push_cast
      omega
    · cases e
theorem sum_cast : ∀ (xs : List Nat), ((xs.map fun (n : Nat) => (n : Int)).sum) = ((xs.sum : Nat) : Int)
  | [] => rfl
  | x :: xs => by rw [List.map_cons, List.sum_cons, List.sum_cons, sum_cast xs]; push_cast; rfl
theorem sum_done {p : Prg} {s : Vs} (h : Good5 p s) (hd : done5 p s = true) : s.st.pc.sum = (((p.map List.length).sum : Nat) : Int) := by
  have e : s.st.pc = (p.map List.length).map fun (n : Nat) => (n : Int) := by
    apply List.ext_getElem?
    intro t
    by_cases ht : t < p.length
    · have hxs : p[t]? = some p[t] := List.getElem?_eq_getElem ht
      obtain ⟨k, hk, hkl⟩ := h.good.pcb t p[t] hxs
      have hg := done5_iff.1 hd t ht
      rw [goes_of hxs hk] at hg
      have : k = p[t].length := by have := of_decide_eq_false hg; omega
      rw [hk, List.getElem?_map, List.getElem?_map, hxs, this]
      rfl
    · rw [List.getElem?_eq_none (by rw [h.good.pcl]; omega), List.getElem?_eq_none (by simp; omega)]
  rw [e, sum_cast]
theorem cho_count {p : Prg} {ms : List Int} (h : (runCho p ms).2 = true) : (ms.length : Int) = (((p.map List.length).sum : Nat) : Int) := by
  unfold runCho at h
  split at h
  · rename_i hv
    have hsh := (valid_of hv).toShape
    unfold runRes at h
    split at h
    · rename_i s hs
      split at h
      · rename_i hd
        have h1 := sum_done (raRun_good hsh hs) hd
        have h2 := sum_follow hsh ms _ _ (good_start5 p) hs
        have h3 : (start5 p).st.pc.sum = 0 := by
          show (List.replicate p.length (0 : Int)).sum = 0
          induction p.length with
          | zero => rfl
          | succ n ih => rw [List.replicate_succ, List.sum_cons, ih]; rfl
        omega
      · cases h
    · cases h
  · cases h
theorem choAft_lt {p : Prg} {ms : List Int} {i : Nat} {x y : Int} (h1 : (choAft p ms)[i]? = some x) (h2 : (choAft p ms)[i + 1]? = some y) : x < y := by
  have key : ∀ l : List Int, l.Pairwise (· < ·) → l[i]? = some x → l[i + 1]? = some y → x < y := fun l hl a b => by
    obtain ⟨ha, rfl⟩ := List.getElem?_eq_some_iff.1 a
    obtain ⟨hb, rfl⟩ := List.getElem?_eq_some_iff.1 b
    exact List.pairwise_iff_getElem.1 hl _ _ ha hb (by omega)
  refine key _ ?_ h1 h2
  unfold choAft
  split
  · split
    · unfold moves5
      rw [List.pairwise_map]
      exact (List.Pairwise.filter _ List.pairwise_lt_range).imp fun h => by omega
    · exact .nil
  · exact .nil
theorem choAft_next {p : Prg} {ms : List Int} {m : Int} (h : m ∈ choAft p ms) (hr : (runCho p (ms ++ [m])).2 = false) : choAft p (ms ++ [m]) ≠ [] := by
  unfold choAft at h ⊢
  unfold runCho at hr
  by_cases hv : progValid p = true
  · have hsh := (valid_of hv).toShape
    rw [if_pos hv] at h hr ⊢
    cases hm : raRun p ms with
    | none => rw [hm] at h; cases h
    | some s =>
      rw [hm] at h
      dsimp only at h
      have hg := raRun_good hsh hm
      have e : raRun p (ms ++ [m]) = some (doC p s m) := by
        unfold raRun at hm ⊢
        rw [follow_append, hm]
        simp only [Option.bind_some]
        rw [follow_one, if_pos h]
      rw [e] at hr ⊢
      have hg2 := stepC hsh hg h
      dsimp only
      refine moves5_ne hg2 hsh ?_
      unfold runRes at hr
      dsimp only at hr
      split at hr
      · cases hr
      · rename_i hd
        simpa using hd
  · rw [if_neg hv] at h
    cases h
/-- The choices come out of a state: they are not large. -/
theorem choAft_bd {p : Prg} {ms : List Int} {m : Int} (h : m ∈ choAft p ms) : m ≤ 100 := by
  unfold choAft at h
  split at h
  · rename_i hv
    have hsh := (valid_of hv).toShape
    split at h
    · rename_i s hs
      have h1 := (raRun_good hsh hs).most_le hsh
      unfold moves5 at h
      obtain ⟨c, hc, rfl⟩ := List.mem_map.1 h
      have := List.mem_range.1 (List.mem_filter.1 hc).1
      omega
    · cases h
  · cases h
end Go.Proofs.Ythlmfjoiicnomaa
namespace Go.Proofs.Ythlmfjoiicnomaa
open Go.RowKit
set_option linter.unusedVariables false
set_option linter.unusedSimpArgs false

theorem rd_take {w : World} {a : Option Addr} {xs : List Int} (h : Rd w a (ints xs)) (k : Nat) : Rd w a (ints (xs.take k)) := by
  rcases h with h | ⟨b, off, e, hlt, hc⟩
  · left
    cases xs with
    | nil => simp
    | cons x xs => cases h
  · refine .inr ⟨b, off, e, hlt, fun j u hj => hc j u ?_⟩
    have e : ints (xs.take k) = (ints xs).take k := by simp [ints, List.map_take]
    rw [e, List.getElem?_take] at hj
    split at hj
    · exact hj
    · cases hj
namespace MJ
variable {J : World → Prop} {P : Program} {ops : Array Oper}
/-- Guarded, and the guard says yes; or says no. -/
theorem wpMix_yes {Q : Act → World → Prop} {a : Act} {w : World} {d : Option Tmp} {op : Op} {t : TypeId} {p : String} {e : Array Edge} {g : Nat × Bool} {rest : List Oper} (hw : yielded ops a.tmps g.1 = some g.2)
    (h : wpMix J P ops Q ({ dst := d, op := op, type := t, pos := p, after := e, guard := none } :: rest) a w) : wpMix J P ops Q ({ dst := d, op := op, type := t, pos := p, after := e, guard := some g } :: rest) a w := by
  unfold wpMix mixOp at h ⊢
  rw [if_pos (by simp [Region.wanted])] at h
  rw [if_pos (by simp [Region.wanted, hw])]
  exact h
theorem wpMix_no {Q : Act → World → Prop} {a : Act} {w : World} {d : Option Tmp} {op : Op} {t : TypeId} {p : String} {e : Array Edge} {g : Nat × Bool} {rest : List Oper} (hw : (yielded ops a.tmps g.1 == some g.2) = false)
    (h : wpMix J P ops Q rest (a.put d undef) w) : wpMix J P ops Q ({ dst := d, op := op, type := t, pos := p, after := e, guard := some g } :: rest) a w := by
  unfold wpMix mixOp
  rw [if_neg (by simp [Region.wanted]; simpa using hw)]
  exact h
/-- An operation that may be guarded and does not act. -/
theorem wpMix_any {Q : Act → World → Prop} {a : Act} {w : World} {o : Oper} {rest : List Oper} (ha : actsB o = false) (hJ : J w)
    (h : ∀ K : Act → Prop, (∀ a, Hid (wpMix J P ops Q rest a w) → K a) → if Region.wanted o (yielded ops a.tmps) then o.quiet P a J K else K (a.put o.dst undef)) : wpMix J P ops Q (o :: rest) a w := by
  have h0 := h _ fun _ h => h.out
  unfold wpMix mixOp
  split at h0
  · rename_i hw
    rw [if_pos hw, if_neg (by simp [ha])]
    obtain ⟨v, hv, hk⟩ := h0
    exact ⟨v, quiet_value ha (hv w hJ), fun _ w' hj => quiet_value ha (hv w' hj), hk⟩
  · rename_i hw
    rw [if_neg hw]
    exact h0
/-- An operation whose guard says no. -/
theorem wpMix_skip {Q : Act → World → Prop} {a : Act} {w : World} {o : Oper} {rest : List Oper}
    (h : ∀ K : Act → Prop, (∀ a, Hid (wpMix J P ops Q rest a w) → K a) → if Region.wanted o (yielded ops a.tmps) then False else K (a.put o.dst undef)) : wpMix J P ops Q (o :: rest) a w := by
  have h0 := h _ fun _ h => h.out
  unfold wpMix mixOp
  split at h0
  · exact h0.elim
  · rename_i hw
    rw [if_neg hw]
    exact h0
end MJ
theorem oper_append_rx {P : Program} {o : Oper} {a : Act} {w : World} {K : Act → World → Prop} {Q : Exit → Act → World → Prop} (s x : Operand) (t : TypeId)
    (ho : o.op = .call { callee := .builtin .append, args := #[s, x], argTypes := #[t, t] })
    (base : Nat) (e : TypeId) (z : Value) (size bytes : Nat) (ht : P.underlying t = some (.slice e)) (hi : (P.info? e).map (fun i => (i.zero, i.size, i.bytes)) = some (some z, size, bytes)) (hzs : z.cells.size = size) (hsz : 0 < size)
    (v : Value) (n : Nat) (xs : List Value) (hs : a.eval s = v) (hown : w.ownsRow base e size v n xs)
    (src : Option Addr) (m c : Nat) (cs : List Value) (hx : a.eval x = .slice src m c) (hrd : Rd w src cs) (hl : cs.length = m * size) (h1 : ∀ u ∈ cs, u.oneCell' = true)
    (h63 : n + m ≤ 1000000000) (hbytes : bytes ≤ 1000) (hbase : base ≤ w.heap.size)
    (h : ∀ v' w', w'.ownsRow base e size v' (n + m) (xs ++ cs) → w.grownBy w' v.ownBlock → K (a.put o.dst v') w') : o.wp P a w K Q := by
  obtain ⟨v', w', hrun, q1, q2, _⟩ := run_append_rd (P := P) w t o.type base e z size bytes ht hi hzs hsz v n xs hown src m c cs hrd hl h1 h63 hbytes hbase
  unfold Oper.wp execOp
  simp only [ho, resolve, invoke, builtin, Sem.run_bind, Sem.run_pure, Result.andThen_ok, List.map_toArray, List.map_cons, List.map_nil, hs, hx, hrun]
  exact h v' w' q1 q2
/-- What the acts of 'append(append([]int{}, ms...), list[i])' have made. -/
def IsInt (B : Nat) (x : Int) (w : World) (v : Value) : Prop := ∃ H, v = .slice (some ⟨H, 0, none⟩) 1 1 ∧ B ≤ H ∧ H < w.heap.size ∧ w.cell? ⟨H, 0, none⟩ = some (.int .i64 x)
theorem IsInt.below {B : Nat} {x : Int} {w w' : World} {v : Value} (h : IsInt B x w v) (hb : Below w.heap.size w w') : IsInt B x w' v := by
  obtain ⟨H, h1, h2, h3, h4⟩ := h
  exact ⟨H, h1, h2, Nat.lt_of_lt_of_le h3 hb.size, (hb.cell (p := ⟨H, 0, none⟩) h3).trans h4⟩
theorem IsInt.new {B : Nat} {x : Int} {w : World} (hB : B ≤ w.heap.size) (t : TypeId) : IsInt B x (w.alloc (.cells #[.int .i64 x] t)) (.slice (some ⟨w.heap.size, 0, none⟩) 1 1) :=
  ⟨_, rfl, hB, by simp, by simp⟩
def nxG (k : Nat) : Nat := if k ≤ 2 then 0 else 1
def nxQ (w0 : World) (ms : List Int) (x : Int) (k : Nat) (w : World) (v : Value) : Prop :=
  if k = 0 then IsLit w0 w 3 v else if k = 2 then IsOwn w0.heap.size ms w v else if k = 7 then IsInt w0.heap.size x w v else True
theorem nxQ_stays (w0 : World) (ms : List Int) (x : Int) : Stays (nxQ w0 ms x) := by
  intro k w w' v h hb
  unfold nxQ at h ⊢
  repeat' split
  all_goals first | trivial | skip
  all_goals simp_all only [if_true, if_false]
  all_goals first | exact IsLit.below h hb | exact IsOwn.below h hb | exact IsInt.below h hb
/-- The call of the first region of MovesPrefix. -/
def PfI (w0 : World) (t : List Int) (S : Nat → Bool) (ρ : Nat → Value) (w : World) : Prop := Below w0.heap.size w0 w ∧ (S 5 = true → ∃ a c, ρ 5 = .slice a t.length c ∧ Rd w a (ints t))
end Go.Proofs.Ythlmfjoiicnomaa
