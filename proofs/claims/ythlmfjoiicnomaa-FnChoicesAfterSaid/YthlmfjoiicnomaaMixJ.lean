/-
  PROVED HERE: a region that draws its order runs as its operations in the order of the text do, if any two of them that no edge orders are apart and are a copy of a slot and anything, or two that only read, or a load that yields one value in every world of J and, behind it, a call or a new block that ends in J. CONDITIONS: as the last theorem states.
-/
import Derived.Test.YthlmfjoiicnomaaPrz
namespace Go.Proofs.Ythlmfjoiicnomaa.MJ
open Go.RowKit
set_option linter.unusedVariables false
set_option linter.unusedSimpArgs false

/-- The operation may turn the world, or runs code. -/
def actsB (o : Oper) : Bool := match o.op with | .build .. => false | _ => Go.Proofs.Ythlmfjoiicnomaa.actsB o
theorem copy_acts {o : Oper} (ho : copyB o = true) : actsB o = false := by
  cases hop : o.op <;> simp [copyB, hop] at ho <;> simp [actsB, Go.Proofs.Ythlmfjoiicnomaa.actsB, hop]
theorem reads_value {o : Oper} (ha : actsB o = false) {P : Program} {ρ : Operand → Value} {w w' : World} {r : Next} (h : (execOp ρ o).run P w = .ok r w') : ∃ v, r = .value v := by
  unfold actsB at ha
  split at ha
  · rename_i hop
    unfold execOp at h
    rw [hop] at h
    exact run_value h
  · exact Go.Proofs.Ythlmfjoiicnomaa.reads_value ha h
/-- The operation reads, and does not copy a slot. -/
def heldB (o : Oper) : Bool := !actsB o && !copyB o
/-- The operation makes a block or calls code. -/
def makesB (o : Oper) : Bool := match o.op with
  | .buildSlice .. | .alloc _ => true
  | .call c => match c.callee with | .builtin _ => false | _ => true
  | _ => false
def keepJ (J : World → Prop) (o : Oper) (K : Act → World → Prop) : Act → World → Prop := if makesB o then fun a w => J w ∧ K a w else K
theorem keepJ_mono {J : World → Prop} {o : Oper} {K K' : Act → World → Prop} (h : ∀ a w, K a w → K' a w) : ∀ a w, keepJ J o K a w → keepJ J o K' a w := by
  intro a w hk
  unfold keepJ at hk ⊢
  split
  · rename_i hm; rw [if_pos hm] at hk; exact ⟨hk.1, h _ _ hk.2⟩
  · rename_i hm; rw [if_neg hm] at hk; exact h _ _ hk
theorem keepJ_out {J : World → Prop} {o : Oper} {K : Act → World → Prop} : ∀ a w, keepJ J o K a w → K a w := by
  intro a w hk
  unfold keepJ at hk
  split at hk
  · exact hk.2
  · exact hk

section
variable {J : World → Prop} {P : Program} {ops : Array Oper}

/-- One operation: carried out at (a, w), the rest K. -/
def mixOp (J : World → Prop) (P : Program) (ops : Array Oper) (o : Oper) (K : Act → World → Prop) (a : Act) (w : World) : Prop :=
  if Region.wanted o (yielded ops a.tmps) then
    (if actsB o then o.wp P a w (keepJ J o K) (fun _ _ _ => False) else ∃ v, (execOp a.eval o).run P w = .ok (.value v) w ∧ (heldB o = true → ∀ w', J w' → (execOp a.eval o).run P w' = .ok (.value v) w') ∧ K (a.put o.dst v) w)
  else K (a.put o.dst undef) w

def wpMix (J : World → Prop) (P : Program) (ops : Array Oper) (Q : Act → World → Prop) : List Oper → Act → World → Prop
  | [], a, w => Q a w
  | o :: rest, a, w => mixOp J P ops o (wpMix J P ops Q rest) a w

theorem wpMix_nil {Q : Act → World → Prop} {a : Act} {w : World} (h : Q a w) : wpMix J P ops Q [] a w := h

/-- An operation that acts, and makes nothing. -/
theorem wpMix_act {Q : Act → World → Prop} {a : Act} {w : World} {o : Oper} {rest : List Oper} (hg : o.guard = none) (ha : actsB o = true) (hm : makesB o = false)
    (h : ∀ K : Act → World → Prop, (∀ a w, wpMix J P ops Q rest a w → K a w) → o.wp P a w K (fun _ _ _ => False)) : wpMix J P ops Q (o :: rest) a w := by
  unfold wpMix mixOp
  rw [if_pos (by simp [Region.wanted, hg]), if_pos ha]
  refine h _ fun a w h => ?_
  unfold keepJ
  rw [if_neg (by simp [hm])]
  exact h
/-- An operation that makes a block or calls code: J must hold behind it. -/
theorem wpMix_make {Q : Act → World → Prop} {a : Act} {w : World} {o : Oper} {rest : List Oper} (hg : o.guard = none) (ha : actsB o = true)
    (h : ∀ K : Act → World → Prop, (∀ a w, J w → wpMix J P ops Q rest a w → K a w) → o.wp P a w K (fun _ _ _ => False)) : wpMix J P ops Q (o :: rest) a w := by
  unfold wpMix mixOp
  rw [if_pos (by simp [Region.wanted, hg]), if_pos ha]
  refine h _ fun a w hj h => ?_
  unfold keepJ
  split
  · exact ⟨hj, h⟩
  · exact h

/-- An operation that reads, no load. -/
theorem wpMix_read {Q : Act → World → Prop} {a : Act} {w : World} {o : Oper} {rest : List Oper} (v : Value) (hg : o.guard = none) (ha : actsB o = false) (hh : heldB o = false)
    (hr : (execOp a.eval o).run P w = .ok (.value v) w) (h : wpMix J P ops Q rest (a.put o.dst v) w) : wpMix J P ops Q (o :: rest) a w := by
  unfold wpMix mixOp
  rw [if_pos (by simp [Region.wanted, hg]), if_neg (by simp [ha])]
  exact ⟨v, hr, fun e => by (rw [hh] at e; cases e), h⟩
/-- A load: it yields one value in every world of J. -/
theorem wpMix_load {Q : Act → World → Prop} {a : Act} {w : World} {o : Oper} {rest : List Oper} (v : Value) (hg : o.guard = none) (ha : actsB o = false)
    (hJ : J w) (hr : ∀ w', J w' → (execOp a.eval o).run P w' = .ok (.value v) w') (h : wpMix J P ops Q rest (a.put o.dst v) w) : wpMix J P ops Q (o :: rest) a w := by
  unfold wpMix mixOp
  rw [if_pos (by simp [Region.wanted, hg]), if_neg (by simp [ha])]
  exact ⟨v, hr w hJ, fun _ => hr, h⟩

theorem quiet_value {o : Oper} {a : Act} {w : World} {v : Value} {C : World → Prop} (ha : actsB o = false) (h : o.quietAt P a C w v) : (execOp a.eval o).run P w = .ok (.value v) w := by
  unfold Oper.quietAt at h
  cases hr : (execOp a.eval o).run P w with
  | halt x w' => rw [hr] at h; simp [Oper.quietUpon] at h
  | ok r w' =>
    obtain ⟨u, rfl⟩ := reads_value ha hr
    rw [hr] at h
    simp only [Oper.quietUpon] at h
    obtain ⟨rfl, rfl⟩ := h
    rfl
/-- An operation that yields one value in every world, in the form that the walk's own step takes. -/
theorem wpMix_pure {Q : Act → World → Prop} {a : Act} {w : World} {o : Oper} {rest : List Oper} (hg : o.guard = none) (ha : actsB o = false)
    (h : ∀ K : Act → Prop, (∀ a, wpMix J P ops Q rest a w → K a) → o.quiet P a (fun _ => True) K) : wpMix J P ops Q (o :: rest) a w := by
  obtain ⟨v, hv, hk⟩ := h _ fun _ h => h
  unfold wpMix mixOp
  rw [if_pos (by simp [Region.wanted, hg]), if_neg (by simp [ha])]
  exact ⟨v, quiet_value ha (hv w trivial), fun _ w' _ => quiet_value ha (hv w' trivial), hk⟩
/-- The same in every world of J. -/
theorem wpMix_held {Q : Act → World → Prop} {a : Act} {w : World} {o : Oper} {rest : List Oper} (hg : o.guard = none) (ha : actsB o = false) (hJ : J w)
    (h : ∀ K : Act → Prop, (∀ a, wpMix J P ops Q rest a w → K a) → o.quiet P a J K) : wpMix J P ops Q (o :: rest) a w := by
  obtain ⟨v, hv, hk⟩ := h _ fun _ h => h
  unfold wpMix mixOp
  rw [if_pos (by simp [Region.wanted, hg]), if_neg (by simp [ha])]
  exact ⟨v, quiet_value ha (hv w hJ), fun _ w' hj => quiet_value ha (hv w' hj), hk⟩

theorem mixOp_mono {o : Oper} {K K' : Act → World → Prop} (h : ∀ a w, K a w → K' a w) {a : Act} {w : World} (hh : mixOp J P ops o K a w) : mixOp J P ops o K' a w := by
  unfold mixOp at *
  split
  · rename_i hw
    rw [if_pos hw] at hh
    split
    · rename_i ha; rw [if_pos ha] at hh; exact upon_mono (keepJ_mono h) hh
    · rename_i ha; rw [if_neg ha] at hh; obtain ⟨v, h1, h2, h3⟩ := hh; exact ⟨v, h1, h2, h _ _ h3⟩
  · rename_i hw
    rw [if_neg hw] at hh
    exact h _ _ hh

/-- What a reading operation yields, wanted or not. -/
def mixH (J : World → Prop) (P : Program) (ops : Array Oper) (o : Oper) (a : Act) (w : World) (v : Value) : Prop := mixV P ops o a w v ∧ (heldB o = true → ∀ w', J w' → mixV P ops o a w' v)
theorem mixOp_read {o : Oper} (ho : actsB o = false) {K : Act → World → Prop} {a : Act} {w : World} : mixOp J P ops o K a w ↔ ∃ v, mixH J P ops o a w v ∧ K (a.put o.dst v) w := by
  unfold mixOp mixH mixV
  by_cases hw : Region.wanted o (yielded ops a.tmps) = true
  · simp only [hw, if_true, ho, Bool.false_eq_true, if_false, and_assoc]
  · simp only [hw, if_false, Bool.false_eq_true]
    exact ⟨fun h => ⟨undef, ⟨rfl, fun _ _ _ => rfl⟩, h⟩, fun ⟨v, ⟨h1, _⟩, h2⟩ => by rw [h1] at h2; exact h2⟩
theorem mixOp_act {o : Oper} (ho : actsB o = true) {K : Act → World → Prop} {a : Act} {w : World} : mixOp J P ops o K a w = if Region.wanted o (yielded ops a.tmps) then o.wp P a w (keepJ J o K) (fun _ _ _ => False) else K (a.put o.dst undef) w := by
  unfold mixOp; rw [if_pos ho]
theorem mixH_put {o : Oper} (hs : ∀ cs b, o.op ≠ .select cs b) {a : Act} {dst : Option Tmp} {u : Value} (h : ∀ d, dst = some d → d ∉ o.looksAt ops) {w : World} {v : Value} :
    mixH J P ops o (a.put dst u) w v ↔ mixH J P ops o a w v := by
  unfold mixH
  simp only [mixV_put hs h]
theorem copy_held {o : Oper} (ho : copyB o = true) : heldB o = false := by
  unfold heldB; rw [ho]; simp
theorem copy_one {o : Oper} (ho : copyB o = true) {a : Act} {w w' : World} {u v : Value} (hu : mixV P ops o a w u) (hv : mixV P ops o a w' v) : u = v := by
  obtain ⟨x, hx⟩ := copy_v (P := P) (ops := ops) ho a
  have one : ∀ (w : World) (u : Value), mixV P ops o a w u → x = u := by
    intro w u hu
    have e1 := hx w
    unfold mixV at e1 hu
    split at e1
    · rename_i hw; rw [if_pos hw] at hu; rw [e1] at hu; simpa using hu
    · rename_i hw; rw [if_neg hw] at hu; rw [e1, hu]
  rw [← one w u hu, ← one w' v hv]

/-- An act runs alike without a value that it does not look at; or with it. -/
theorem wp_out {y : Oper} (hy : ∀ cs b, y.op ≠ .select cs b) {a : Act} {xd : Option Tmp} {v : Value} (h1 : ∀ d, xd = some d → d ∉ y.looksAt ops) {w : World} {K K' : Act → World → Prop}
    (key : ∀ (b : Act) (u : Value) (w' : World), b.tmps = a.tmps → K ((b.put xd v).put y.dst u) w' → K' (b.put y.dst u) w') (hh : y.wp P (a.put xd v) w K (fun _ _ _ => False)) : y.wp P a w K' (fun _ _ _ => False) := by
  unfold Oper.wp at hh ⊢
  rw [execOp_put y hy a xd v h1] at hh
  generalize (execOp a.eval y).run P w = r at hh ⊢
  cases r with
  | ok n w' =>
    cases n <;> simp only [Oper.upon] at hh ⊢ <;>
      first
        | exact hh
        | exact key a _ _ rfl hh
        | exact Calls.mono hh (fun e w'' he => by
            cases e with
            | returned u => exact key a _ _ rfl he
            | panicked c => exact he
            | outgrown => exact he)
        | exact Rows.mono hh (fun _ _ he => key a _ _ rfl he)
        | (rename_i d
           refine key { a with defers := d :: a.defers } undef w' rfl (by rw [← Act.put_defers]; exact hh))
  | halt q w' => cases q <;> simp only [Oper.upon] at hh ⊢
theorem wp_in {x : Oper} (hx : ∀ cs b, x.op ≠ .select cs b) {a : Act} {yd : Option Tmp} {u : Value} (h3 : ∀ d, yd = some d → d ∉ x.looksAt ops) {w : World} {K K' : Act → World → Prop}
    (key : ∀ (b : Act) (v : Value) (w' : World), b.tmps = a.tmps → K (b.put x.dst v) w' → K' ((b.put yd u).put x.dst v) w') (hh : x.wp P a w K (fun _ _ _ => False)) : x.wp P (a.put yd u) w K' (fun _ _ _ => False) := by
  unfold Oper.wp at hh ⊢
  rw [execOp_put x hx a yd u h3]
  generalize (execOp a.eval x).run P w = r at hh ⊢
  cases r with
  | ok n w' =>
    cases n <;> simp only [Oper.upon] at hh ⊢ <;>
      first
        | exact hh
        | exact key a _ _ rfl hh
        | exact Calls.mono hh (fun e w'' he => by
            cases e with
            | returned u => exact key a _ _ rfl he
            | panicked c => exact he
            | outgrown => exact he)
        | exact Rows.mono hh (fun _ _ he => key a _ _ rfl he)
        | (rename_i d
           rw [Act.put_defers]
           exact key { a with defers := d :: a.defers } undef w' rfl hh)
  | halt q w' => cases q <;> simp only [Oper.upon] at hh ⊢
theorem mixV_tmps {o : Oper} {a b : Act} (h : b.tmps = a.tmps) {w : World} {v : Value} (hv : mixV P ops o a w v) : mixV P ops o b w v := by
  have e : b.eval = a.eval := by funext x; unfold Act.eval; rw [h]
  unfold mixV at hv ⊢
  rw [h, e]
  exact hv
theorem mixH_tmps {o : Oper} {a b : Act} (h : b.tmps = a.tmps) {w : World} {v : Value} (hv : mixH J P ops o a w v) : mixH J P ops o b w v :=
  ⟨mixV_tmps h hv.1, fun e w' hj => mixV_tmps h (hv.2 e w' hj)⟩

/-- The two may change places. -/
def swapB (ops : Array Oper) (x y : Oper) : Bool := x.apart ops y && (copyB x || copyB y || (!actsB x && !actsB y) || (heldB x && actsB y && makesB y))

theorem mixOp_swap {x y : Oper} (hx : ∀ cs b, x.op ≠ .select cs b) (hy : ∀ cs b, y.op ≠ .select cs b) (h : swapB ops x y = true) {K : Act → World → Prop} {a : Act} {w : World}
    (hh : mixOp J P ops x (mixOp J P ops y K) a w) : mixOp J P ops y (mixOp J P ops x K) a w := by
  simp only [swapB, Bool.and_eq_true, Bool.or_eq_true, Bool.not_eq_true'] at h
  obtain ⟨hap, h⟩ := h
  obtain ⟨h1, h2, h3⟩ := Oper.apart_spec hap
  have h2' : ∀ d, y.dst = some d → x.dst ≠ some d := fun d hd e => h2 d e hd
  -- two that read
  have two : actsB x = false → actsB y = false → mixOp J P ops y (mixOp J P ops x K) a w := by
    intro ax ay
    rw [mixOp_read ax] at hh
    obtain ⟨v, hv, hh⟩ := hh
    rw [mixOp_read ay] at hh
    obtain ⟨u, hu, hh⟩ := hh
    rw [mixH_put hy h1] at hu
    refine (mixOp_read ay).2 ⟨u, hu, (mixOp_read ax).2 ⟨v, (mixH_put hx h3).2 hv, ?_⟩⟩
    rw [Act.put_comm _ u v h2']
    exact hh
  -- x reads and yields v in each world that y ends in
  have front : actsB x = false → actsB y = true → (∀ v, mixH J P ops x a w v → ∀ w', (makesB y = true → J w') → mixH J P ops x a w' v) → mixOp J P ops y (mixOp J P ops x K) a w := by
    intro ax ay hq
    rw [mixOp_read ax] at hh
    obtain ⟨v, hv, hh⟩ := hh
    have key : ∀ (b : Act) (u : Value) (w' : World), b.tmps = a.tmps → keepJ J y K ((b.put x.dst v).put y.dst u) w' → keepJ J y (mixOp J P ops x K) (b.put y.dst u) w' := by
      intro b u w' hb hk
      have one : (makesB y = true → J w') → K ((b.put x.dst v).put y.dst u) w' → mixOp J P ops x K (b.put y.dst u) w' := fun hj hk =>
        (mixOp_read ax).2 ⟨v, (mixH_put hx h3).2 (mixH_tmps hb (hq v hv w' hj)), by rw [Act.put_comm _ u v h2']; exact hk⟩
      unfold keepJ at hk ⊢
      split
      · rename_i hm; rw [if_pos hm] at hk; exact ⟨hk.1, one (fun _ => hk.1) hk.2⟩
      · rename_i hm; rw [if_neg hm] at hk; exact one (fun e => absurd e hm) hk
    rw [mixOp_act ay] at hh ⊢
    rw [wanted_put y a x.dst v h1] at hh
    split
    · rename_i hw
      rw [if_pos hw] at hh
      exact wp_out hy h1 key hh
    · rename_i hw
      rw [if_neg hw] at hh
      exact (mixOp_read ax).2 ⟨v, (mixH_put hx h3).2 hv, by rw [Act.put_comm _ undef v h2']; exact hh⟩
  rcases h with ((hc | hc) | hc) | hc
  · -- x copies
    have ax := copy_acts hc
    by_cases ay : actsB y = true
    · refine front ax ay fun v hv w' _ => ⟨?_, fun e => by (rw [copy_held hc] at e; cases e)⟩
      obtain ⟨u, hu⟩ := copy_v (P := P) (ops := ops) hc a
      rw [← copy_one hc (hu w) hv.1]
      exact hu w'
    · exact two ax (by simpa using ay)
  · -- y copies
    have ay := copy_acts hc
    by_cases ax : actsB x = true
    · obtain ⟨u, hu⟩ := copy_v (P := P) (ops := ops) hc a
      refine (mixOp_read ay).2 ⟨u, ⟨hu w, fun e => by (rw [copy_held hc] at e; cases e)⟩, ?_⟩
      have same : ∀ (b : Act) (v : Value) (w' : World), b.tmps = a.tmps → mixOp J P ops y K (b.put x.dst v) w' → K ((b.put y.dst u).put x.dst v) w' := by
        intro b v w' hb hk
        rw [mixOp_read ay] at hk
        obtain ⟨u', hu', hk⟩ := hk
        rw [mixH_put hy h1] at hu'
        have e : u = u' := copy_one hc (mixV_tmps hb (hu w')) hu'.1
        subst e
        rw [Act.put_comm _ u v h2']
        exact hk
      have key : ∀ (b : Act) (v : Value) (w' : World), b.tmps = a.tmps → keepJ J x (mixOp J P ops y K) (b.put x.dst v) w' → keepJ J x K ((b.put y.dst u).put x.dst v) w' := by
        intro b v w' hb hk
        unfold keepJ at hk ⊢
        split
        · rename_i hm; rw [if_pos hm] at hk; exact ⟨hk.1, same b v w' hb hk.2⟩
        · rename_i hm; rw [if_neg hm] at hk; exact same b v w' hb hk
      rw [mixOp_act ax] at hh ⊢
      rw [wanted_put x a y.dst u h3]
      split
      · rename_i hw
        rw [if_pos hw] at hh
        exact wp_in hx h3 key hh
      · rename_i hw
        rw [if_neg hw] at hh
        exact same a _ _ rfl hh
    · exact two (by simpa using ax) ay
  · exact two hc.1 hc.2
  · obtain ⟨⟨hl, ay⟩, hm⟩ := hc
    have ax : actsB x = false := by
      unfold heldB at hl
      simp only [Bool.and_eq_true, Bool.not_eq_true'] at hl
      exact hl.1
    exact front ax ay fun v hv w' hj => ⟨hv.2 hl w' (hj hm), fun _ => hv.2 hl⟩

/-- The operations with these numbers, one after the other. -/
def mixIxs (J : World → Prop) (P : Program) (ops : Array Oper) (Q : Act → World → Prop) : List Nat → Act → World → Prop
  | [], a, w => Q a w
  | i :: rest, a, w => match ops[i]? with
    | none => mixIxs J P ops Q rest a w
    | some o => mixOp J P ops o (mixIxs J P ops Q rest) a w

theorem mixIxs_eq {Q : Act → World → Prop} (l : List Oper) : ∀ k, (∀ j, l[j]? = ops[k + j]?) → mixIxs J P ops Q (List.range' k l.length) = wpMix J P ops Q l := by
  induction l with
  | nil => intro k _; funext a w; simp [mixIxs, wpMix]
  | cons o l ih =>
    intro k h
    have h0 : ops[k]? = some o := by simpa using (h 0).symm
    have ih' := ih (k + 1) (fun j => by have := h (j + 1); simpa [Nat.add_assoc, Nat.add_comm 1 j] using this)
    funext a w
    simp only [List.length_cons, List.range'_succ, mixIxs, h0, wpMix, ih']

theorem mixIxs_front {Q : Act → World → Prop} (hs : NoSel ops) {i : Nat} {z : Oper} (hi : ops[i]? = some z) (r2 : List Nat) :
    ∀ (r1 : List Nat), (∀ y ∈ r1, ∀ x, ops[y]? = some x → swapB ops x z = true) → ∀ (a : Act) (w : World), mixIxs J P ops Q (r1 ++ i :: r2) a w → mixIxs J P ops Q (i :: (r1 ++ r2)) a w
  | [], _, a, w, h => h
  | y :: r1, hsw, a, w, h => by
    have ih := mixIxs_front (Q := Q) hs hi r2 r1 (fun y hy => hsw y (List.mem_cons_of_mem _ hy))
    simp only [List.cons_append, mixIxs] at h ⊢
    cases hy : ops[y]? with
    | none =>
      rw [hy] at h
      have := ih a w h
      simp only [mixIxs, hi] at this ⊢
      exact this
    | some x =>
      rw [hy] at h
      have h2 := mixOp_mono ih h
      simp only [mixIxs, hi] at h2 ⊢
      exact mixOp_swap (fun cs b => hs y x cs b hy) (fun cs b => hs i z cs b hi) (hsw y (List.mem_cons_self) x hy) h2

structure Mixed (ops : Array Oper) : Prop where
  sel : NoSel ops
  back : ∀ (i : Nat) o, ops[i]? = some o → ∀ e ∈ o.after, Region.binds .any e = true → e.on < i
  swap : ∀ (i : Nat) o, ops[i]? = some o → ∀ (y : Nat), y < i → ∀ x, ops[y]? = some x → Before ops y i ∨ swapB ops x o = true

theorem wpAny_of_mix {Q : Exit → Act → World → Prop} (hm : Mixed ops) : ∀ (fuel : Nat) (listed : Array Bool) (a : Act) (w : World), listed.size = ops.size → Closed ops listed → (todoOf ops.size listed).length ≤ fuel →
    mixIxs J P ops (fun a w => Q .normal a w) (todoOf ops.size listed) a w → wpAny P .any ops Q fuel listed a w := by
  have first : ∀ (listed : Array Bool), listed.size = ops.size → Region.ready .any ops listed = [] → todoOf ops.size listed = [] := by
    intro listed hsz hr
    by_cases ht : todoOf ops.size listed = []
    · exact ht
    · exfalso
      obtain ⟨i, r, hir⟩ := List.exists_cons_of_ne_nil ht
      have hi : i ∈ todoOf ops.size listed := by rw [hir]; exact List.mem_cons_self
      obtain ⟨hin, hil⟩ := mem_todo.1 hi
      have hsorted : (todoOf ops.size listed).Pairwise (· < ·) := List.Pairwise.filter _ List.pairwise_lt_range
      have : i ∈ Region.ready .any ops listed := by
        refine mem_ready.2 ⟨hil, ops[i], by simp [hin], fun e he hb => ?_⟩
        have hlt := hm.back i _ (by simp [hin]) e he hb
        cases hl : listed.getD e.on false with
        | true => rfl
        | false =>
          exfalso
          have hmem : e.on ∈ todoOf ops.size listed := mem_todo.2 ⟨by omega, getD_in (by omega) hl⟩
          rw [hir] at hmem hsorted
          rcases List.mem_cons.1 hmem with h | h
          · omega
          · have := (List.pairwise_cons.1 hsorted).1 _ h; omega
      rw [hr] at this
      simp at this
  intro fuel
  induction fuel with
  | zero =>
    intro listed a w hsz hc hlen h
    have ht : todoOf ops.size listed = [] := List.eq_nil_of_length_eq_zero (by omega)
    rw [ht] at h
    refine ⟨?_, h⟩
    cases hr : Region.ready .any ops listed with
    | nil => rfl
    | cons i r =>
      have hi : i ∈ Region.ready .any ops listed := by rw [hr]; exact List.mem_cons_self
      obtain ⟨hl, o, ho, _⟩ := mem_ready.1 hi
      have : i ∈ todoOf ops.size listed := mem_todo.2 ⟨(Array.getElem?_eq_some_iff.1 ho).1, hl⟩
      rw [ht] at this
      simp at this
  | succ fuel ih =>
    intro listed a w hsz hc hlen h
    refine ⟨fun hr => by rw [first listed hsz hr] at h; exact h, fun i hi => ?_⟩
    obtain ⟨hl, o, ho, hall⟩ := mem_ready.1 hi
    have hin : i < ops.size := (Array.getElem?_eq_some_iff.1 ho).1
    have hmem : i ∈ todoOf ops.size listed := mem_todo.2 ⟨hin, hl⟩
    obtain ⟨r1, r2, hr⟩ := List.append_of_mem hmem
    have hsorted : (todoOf ops.size listed).Pairwise (· < ·) := List.Pairwise.filter _ List.pairwise_lt_range
    rw [hr] at hsorted h
    have hlt1 : ∀ y ∈ r1, y < i := fun y hy => (List.pairwise_append.1 hsorted).2.2 y hy i List.mem_cons_self
    have hlt2 : ∀ y ∈ r2, i < y := fun y hy => (List.pairwise_cons.1 (List.pairwise_append.1 hsorted).2.1).1 y hy
    have hfront := mixIxs_front (J := J) (P := P) (Q := fun a w => Q .normal a w) hm.sel ho r2 r1 (fun y hy x hx => by
      rcases hm.swap i o ho y (hlt1 y hy) x hx with hb | hb
      · exfalso
        have h1 := hb.ready hc hi
        have h2 : y ∈ todoOf ops.size listed := by rw [hr]; exact List.mem_append_left _ hy
        have h3 := getD_both (mem_todo.1 h2).2
        rw [h1] at h3
        cases h3
      · exact hb) a w h
    have htodo : todoOf ops.size (listed.setIfInBounds i true) = r1 ++ r2 := by
      have e : todoOf ops.size (listed.setIfInBounds i true) = (todoOf ops.size listed).filter (fun j => decide (j ≠ i)) := by
        unfold todoOf
        rw [List.filter_filter]
        apply List.filter_congr
        intro j hj
        by_cases hji : j = i
        · subst hji
          have hjs : j < listed.size := by omega
          simp [hjs]
        · rw [getD_set_ne true (fun e => hji e.symm)]
          simp [hji]
      rw [e, hr, List.filter_append, List.filter_cons]
      simp only [ne_eq, not_true_eq_false, decide_false, Bool.false_eq_true, if_false]
      rw [List.filter_eq_self.2 (fun y hy => by have := hlt1 y hy; simp; omega), List.filter_eq_self.2 (fun y hy => by have := hlt2 y hy; simp; omega)]
    have hnext : Closed ops (listed.setIfInBounds i true) := by
      intro j oj hj hlj e he hb
      by_cases hji : j = i
      · subst hji
        rw [ho] at hj
        cases hj
        exact getD_set_true (hall e he hb)
      · rw [getD_set_ne false (fun e => hji e.symm)] at hlj
        exact getD_set_true (hc j oj hj hlj e he hb)
    have hlen' : (todoOf ops.size (listed.setIfInBounds i true)).length ≤ fuel := by
      rw [htodo]
      rw [hr] at hlen
      simp at hlen ⊢
      omega
    have ih' := fun a w => ih (listed.setIfInBounds i true) a w (by simpa using hsz) hnext hlen'
    rw [htodo] at ih'
    simp only [mixIxs, ho] at hfront
    -- from the rule of one operation to the base's
    unfold wpOp
    simp only [ho]
    unfold mixOp at hfront
    split
    · rename_i hw
      rw [if_pos hw] at hfront
      refine .inl ?_
      split at hfront
      · exact upon_mono (fun a w h => ih' a w (keepJ_out a w h)) hfront
      · obtain ⟨v, hv, _, hk⟩ := hfront
        unfold Oper.wp
        rw [hv]
        exact ih' _ _ hk
    · rename_i hw
      rw [if_neg hw] at hfront
      exact ih' _ _ hfront

def mixGo (ops : Array Oper) : List Oper → Nat → List Nat → Bool
  | [], _, _ => true
  | o :: rest, k, ms =>
    (o.after.toList.all fun e => !Region.binds .any e || decide (e.on < k)) &&
    ((List.range k).all fun y => (maskOf ms o).testBit y || (match ops[y]? with | some x => swapB ops x o | none => true)) &&
    mixGo ops rest (k + 1) (ms ++ [maskOf ms o])
def mixB (ops : Array Oper) : Bool := Region.noSelect ops && mixGo ops ops.toList 0 []

theorem mixGo_spec : ∀ (l : List Oper) (k : Nat) (ms : List Nat), (∀ j, l[j]? = ops[k + j]?) → (∀ i, ∀ y, (ms.getD i 0).testBit y = true → Before ops y i) → ms.length = k → mixGo ops l k ms = true →
    ∀ (i : Nat) o, k ≤ i → ops[i]? = some o → (∀ e ∈ o.after, Region.binds .any e = true → e.on < i) ∧ ∀ (y : Nat), y < i → ∀ x, ops[y]? = some x → Before ops y i ∨ swapB ops x o = true
  | [], k, ms, hl, _, _, _, i, o, hki, ho => by
    have := hl (i - k)
    rw [show k + (i - k) = i by omega, ho] at this
    simp at this
  | o' :: rest, k, ms, hl, hms, hlen, h, i, o, hki, ho => by
    have h0 : ops[k]? = some o' := by simpa using (hl 0).symm
    simp only [mixGo, Bool.and_eq_true, List.all_eq_true, List.mem_range, Bool.or_eq_true, Bool.not_eq_true', decide_eq_true_eq] at h
    obtain ⟨⟨h1, h2⟩, h3⟩ := h
    by_cases hik : i = k
    · subst hik
      rw [h0] at ho
      cases ho
      refine ⟨fun e he hb => ?_, fun y hy x hx => ?_⟩
      · rcases h1 e (by simpa using he) with h | h
        · rw [hb] at h; cases h
        · exact h
      · have := h2 y hy
        rw [hx] at this
        exact this.imp (maskOf_spec h0 hms) id
    · refine mixGo_spec rest (k + 1) _ (fun j => by have := hl (j + 1); simpa [Nat.add_assoc, Nat.add_comm 1 j] using this) ?_ (by simp [hlen]) h3 i o (by omega) ho
      intro i y hy
      by_cases hi : i < k
      · exact hms i y (by simpa [List.getD, List.getElem?_append, hlen, hi] using hy)
      · by_cases hi' : i = k
        · subst hi'
          refine maskOf_spec h0 hms ?_
          simpa [List.getD, List.getElem?_append, hlen] using hy
        · simp [List.getD, List.getElem?_append, hlen, hi, show ¬ i - k = 0 by omega] at hy

theorem mixed_of (h : mixB ops = true) : Mixed ops := by
  simp only [mixB, Bool.and_eq_true] at h
  have key := mixGo_spec (ops := ops) ops.toList 0 [] (by simp) (by simp) rfl h.2
  exact ⟨fun j o cs b => Region.noSelect_spec h.1 j o cs b, fun i o ho => (key i o (Nat.zero_le _) ho).1, fun i o ho => (key i o (Nat.zero_le _) ho).2⟩

/-- THE RULE. -/
theorem wp_region_mix {id : Nat} {Q : Exit → Act → World → Prop} {a : Act} {w : World} {l : List Oper} (hm : P.follows .mixedOrders = true) (hB : mixB l.toArray = true)
    (h : wpMix J P l.toArray (fun a w => Q .normal a w) l a w.drew) : (Code.region id l.toArray true).wp P Q a w := by
  refine wp_region_any hm ?_
  refine wpAny_of_mix (J := J) (mixed_of hB) _ _ a _ (by simp) (fun j o ho hl => ?_) ?_ ?_
  · rw [getD_replicate_false] at hl; cases hl
  · exact Nat.le_trans (List.length_filter_le _ _) (by simp)
  · have e : todoOf l.toArray.size (Array.replicate l.toArray.size false) = List.range' 0 l.length := by
      rw [← List.range_eq_range', todoOf, List.filter_eq_self.2]
      · simp
      · intro j hj
        have hj' : j < l.length := by simpa using hj
        simp [hj']
    rw [e, mixIxs_eq l 0 (by simp)]
    exact h

end
end Go.Proofs.Ythlmfjoiicnomaa.MJ
