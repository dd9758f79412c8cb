/-
  PROVED HERE: a region that draws its order, by an invariant over what has been carried out: its first T operations in any order, the others in the order of the text. CONDITIONS: as the last theorem states.
-/
import Derived.Test.YthlmfjoiicnomaaMixJ
namespace Go.Proofs.Ythlmfjoiicnomaa.FR
open Go.RowKit
set_option linter.unusedVariables false
set_option linter.unusedSimpArgs false

abbrev actB := MJ.actsB
def upd {α : Type} (f : Nat → α) (k : Nat) (v : α) : Nat → α := fun j => if j = k then v else f j
@[simp] theorem upd_same {α : Type} (f : Nat → α) (k : Nat) (v : α) : upd f k v k = v := by unfold upd; rw [if_pos rfl]
theorem upd_ne {α : Type} (f : Nat → α) {k j : Nat} (v : α) (h : j ≠ k) : upd f k v j = f j := by unfold upd; rw [if_neg h]

section
variable {P : Program} {ops : Array Oper}

def dstAt (ops : Array Oper) (j : Nat) : Option Tmp := (ops[j]?).bind (·.dst)
def putAll (ops : Array Oper) (X : Nat → Value) : List Nat → Act → Act
  | [], a => a
  | j :: js, a => putAll ops X js (a.put (dstAt ops j) (X j))
theorem putAll_append (X : Nat → Value) : ∀ (xs ys : List Nat) (a : Act), putAll ops X (xs ++ ys) a = putAll ops X ys (putAll ops X xs a)
  | [], ys, a => rfl
  | x :: xs, ys, a => putAll_append X xs ys _
theorem putAll_congr {X Y : Nat → Value} : ∀ (js : List Nat) (a : Act), (∀ j ∈ js, X j = Y j) → putAll ops X js a = putAll ops Y js a
  | [], a, _ => rfl
  | j :: js, a, h => by
    unfold putAll
    rw [h j List.mem_cons_self]
    exact putAll_congr js _ fun k hk => h k (List.mem_cons_of_mem _ hk)
theorem putAll_put {X : Nat → Value} : ∀ (js : List Nat) (a : Act) (dst : Option Tmp) (v : Value), (∀ k ∈ js, ∀ d, dstAt ops k = some d → dst ≠ some d) → putAll ops X js (a.put dst v) = (putAll ops X js a).put dst v
  | [], a, dst, v, _ => rfl
  | j :: js, a, dst, v, h => by
    unfold putAll
    rw [Act.put_comm a v (X j) (fun d hd e => h j List.mem_cons_self d e hd)]
    exact putAll_put js _ dst v fun k hk => h k (List.mem_cons_of_mem _ hk)
theorem putAll_size {X : Nat → Value} : ∀ (js : List Nat) (a : Act), (putAll ops X js a).tmps.size = a.tmps.size
  | [], a => rfl
  | j :: js, a => by
    unfold putAll
    rw [putAll_size js]
    cases dstAt ops j <;> simp [Act.put]
/-- An operation does not see what it does not look at. -/
theorem exec_filter {X : Nat → Value} {o : Oper} (hs : ∀ cs b, o.op ≠ .select cs b) (keep : Nat → Bool) : ∀ (js : List Nat) (a : Act), js.Pairwise (fun j k => ∀ d, dstAt ops k = some d → dstAt ops j ≠ some d) →
    (∀ j ∈ js, keep j = false → ∀ d, dstAt ops j = some d → d ∉ o.looksAt ops) → execOp (putAll ops X js a).eval o = execOp (putAll ops X (js.filter keep) a).eval o
  | [], a, _, _ => rfl
  | j :: js, a, hp, h => by
    obtain ⟨h1, h2⟩ := List.pairwise_cons.1 hp
    have ih := fun a => exec_filter (X := X) hs keep js a h2 fun k hk => h k (List.mem_cons_of_mem _ hk)
    rw [List.filter_cons]
    split
    · unfold putAll
      exact ih _
    · rename_i hk
      show execOp (putAll ops X js (a.put (dstAt ops j) (X j))).eval o = _
      rw [ih, putAll_put _ _ _ _ (fun k hk d hd => h1 k (List.mem_filter.1 hk).1 d hd), execOp_put o hs _ _ _ (fun d hd => h j List.mem_cons_self (by simpa using hk) d hd)]

/-- The act j comes before k. -/
def maskGo (ops : Array Oper) : List Oper → List Nat → List Nat
  | [], ms => ms
  | o :: rest, ms => maskGo ops rest (ms ++ [maskOf ms o])
def masks (ops : Array Oper) : List Nat := maskGo ops ops.toList []
def actAt (ops : Array Oper) (j : Nat) : Bool := match ops[j]? with | some o => actB o | none => false
def befB (ops : Array Oper) (j k : Nat) : Bool := ((masks ops).getD k 0).testBit j
def predB (ops : Array Oper) (j k : Nat) : Bool := actAt ops j && befB ops j k
theorem maskGo_spec : ∀ (l : List Oper) (ms : List Nat), (∀ j, l[j]? = ops[ms.length + j]?) → (∀ i y, (ms.getD i 0).testBit y = true → Before ops y i) → ∀ i y, ((maskGo ops l ms).getD i 0).testBit y = true → Before ops y i
  | [], ms, _, h, i, y, hy => h i y hy
  | o :: rest, ms, hl, h, i, y, hy => by
    have h0 : ops[ms.length]? = some o := by simpa using (hl 0).symm
    refine maskGo_spec rest (ms ++ [maskOf ms o]) (fun j => by have := hl (j + 1); simpa [Nat.add_assoc, Nat.add_comm 1 j] using this) (fun i y hy => ?_) i y hy
    by_cases hi : i < ms.length
    · exact h i y (by simpa [List.getD, List.getElem?_append, hi] using hy)
    · by_cases hi' : i = ms.length
      · subst hi'
        refine maskOf_spec h0 h ?_
        simpa [List.getD, List.getElem?_append] using hy
      · simp [List.getD, List.getElem?_append, hi, show ¬ i - ms.length = 0 by omega] at hy
theorem bef_spec {j k : Nat} (h : befB ops j k = true) : Before ops j k := maskGo_spec ops.toList [] (by simp) (by simp) k j h

/-- The first T operations may come in any order, the others in that of the text. -/
def freeB (ops : Array Oper) (T : Nat) : Bool :=
  Region.noSelect ops && decide (T ≤ ops.size) &&
  (List.range ops.size).all fun i => match ops[i]? with
    | none => false
    | some o =>
      (o.after.toList.all fun e => !Region.binds .any e || decide (e.on < i)) &&
      (if i < T then o.guard.isNone && o.dst.isSome && (List.range i).all fun y => match ops[y]? with
          | none => false
          | some x => (befB ops y i || x.apart ops o) && x.dst != o.dst
        else (List.range i).all fun y => befB ops y i)
structure Free (ops : Array Oper) (T : Nat) : Prop where
  sel : NoSel ops
  le : T ≤ ops.size
  back : ∀ (i : Nat) o, ops[i]? = some o → ∀ e ∈ o.after, Region.binds .any e = true → e.on < i
  pre : ∀ (i : Nat) o, i < T → ops[i]? = some o → o.guard = none ∧ (∃ d, o.dst = some d) ∧ ∀ y, y < i → ∀ x, ops[y]? = some x → (Before ops y i ∨ x.apart ops o = true) ∧ x.dst ≠ o.dst
  post : ∀ i, T ≤ i → i < ops.size → ∀ y, y < i → Before ops y i
theorem free_of {T : Nat} (h : freeB ops T = true) : Free ops T := by
  simp only [freeB, Bool.and_eq_true, List.all_eq_true, List.mem_range, decide_eq_true_eq] at h
  obtain ⟨⟨h1, h2⟩, h3⟩ := h
  refine ⟨fun j o cs b => Region.noSelect_spec h1 j o cs b, h2, fun i o ho e he hb => ?_, fun i o hi ho => ?_, fun i hi hin y hy => ?_⟩
  · have := h3 i (Array.getElem?_eq_some_iff.1 ho).1
    rw [ho] at this
    simp only [Bool.and_eq_true, List.all_eq_true, Bool.or_eq_true, Bool.not_eq_true', decide_eq_true_eq] at this
    rcases this.1 e (by simpa using he) with h | h
    · rw [hb] at h; cases h
    · exact h
  · have := h3 i (Array.getElem?_eq_some_iff.1 ho).1
    rw [ho] at this
    simp only [Bool.and_eq_true, hi, if_true, List.all_eq_true, List.mem_range, Option.isNone_iff_eq_none, Option.isSome_iff_exists] at this
    refine ⟨this.2.1.1, this.2.1.2, fun y hy x hx => ?_⟩
    have h4 := this.2.2 y hy
    rw [hx] at h4
    simp only [Bool.and_eq_true, Bool.or_eq_true, bne_iff_ne, ne_eq] at h4
    exact ⟨h4.1.imp bef_spec id, h4.2⟩
  · have := h3 i hin
    rw [Array.getElem?_eq_getElem hin] at this
    simp only [Bool.and_eq_true, show ¬ i < T by omega, if_false, List.all_eq_true, List.mem_range] at this
    exact bef_spec (this.2 y hy)

variable (I : (Nat → Bool) → (Nat → Value) → World → Prop)

/-- The walk in the order of the text; V: what the acts yield. -/
def frGo (P : Program) (ops : Array Oper) (I : (Nat → Bool) → (Nat → Value) → World → Prop) (V : Nat → Value) (fin : Act → Prop) : Nat → List Oper → Act → Prop
  | _, [], a => fin a
  | k, o :: l, a =>
    if actB o then
      (∀ S ρ w, I S ρ w → S k = false → (∀ j, predB ops j k = true → S j = true ∧ ρ j = V j) → ∀ K : Act → World → Prop, (∀ v w', I (upd S k true) (upd ρ k v) w' → K (a.put o.dst v) w') → o.wp P a w K (fun _ _ _ => False)) ∧
      frGo P ops I V fin (k + 1) l (a.put o.dst (V k))
    else ∃ x, (∀ S ρ w, I S ρ w → (∀ j, predB ops j k = true → S j = true ∧ ρ j = V j) → (execOp a.eval o).run P w = .ok (.value x) w) ∧ frGo P ops I V fin (k + 1) l (a.put o.dst x)
theorem frGo_nil {V : Nat → Value} {fin : Act → Prop} {k : Nat} {a : Act} (h : fin a) : frGo P ops I V fin k [] a := h
theorem frGo_act {V : Nat → Value} {fin : Act → Prop} {k : Nat} {o : Oper} {l : List Oper} {a : Act} (ha : actB o = true)
    (h1 : ∀ S ρ w, I S ρ w → S k = false → (∀ j, predB ops j k = true → S j = true ∧ ρ j = V j) → ∀ K : Act → World → Prop, (∀ v w', I (upd S k true) (upd ρ k v) w' → K (a.put o.dst v) w') → o.wp P a w K (fun _ _ _ => False))
    (h2 : frGo P ops I V fin (k + 1) l (a.put o.dst (V k))) : frGo P ops I V fin k (o :: l) a := by
  unfold frGo
  rw [if_pos ha]
  exact ⟨h1, h2⟩
theorem frGo_pure {V : Nat → Value} {fin : Act → Prop} {k : Nat} {o : Oper} {l : List Oper} {a : Act} (ha : actB o = false)
    (h : ∀ K : Act → Prop, (∀ a, frGo P ops I V fin (k + 1) l a → K a) → o.quiet P a (fun _ => True) K) : frGo P ops I V fin k (o :: l) a := by
  obtain ⟨v, hv, hk⟩ := h _ fun _ h => h
  unfold frGo
  rw [if_neg (by simp [ha])]
  exact ⟨v, fun S ρ w _ _ => MJ.quiet_value ha (hv w trivial), hk⟩
theorem frGo_held {V : Nat → Value} {fin : Act → Prop} {k : Nat} {o : Oper} {l : List Oper} {a : Act} (ha : actB o = false) (C : World → Prop)
    (hC : ∀ S ρ w, I S ρ w → (∀ j, predB ops j k = true → S j = true ∧ ρ j = V j) → C w)
    (h : ∀ K : Act → Prop, (∀ a, frGo P ops I V fin (k + 1) l a → K a) → o.quiet P a C K) : frGo P ops I V fin k (o :: l) a := by
  obtain ⟨v, hv, hk⟩ := h _ fun _ h => h
  unfold frGo
  rw [if_neg (by simp [ha])]
  exact ⟨v, fun S ρ w h1 h2 => MJ.quiet_value ha (hv w (hC S ρ w h1 h2)), hk⟩

/-- What the walk shows of operation j, where the slots are those of the text's order. -/
def Ob (P : Program) (ops : Array Oper) (I : (Nat → Bool) → (Nat → Value) → World → Prop) (V X : Nat → Value) (j : Nat) (o : Oper) (a : Act) : Prop :=
  if actB o then X j = V j ∧ ∀ S ρ w, I S ρ w → S j = false → (∀ i, predB ops i j = true → S i = true ∧ ρ i = V i) → ∀ K : Act → World → Prop, (∀ v w', I (upd S j true) (upd ρ j v) w' → K (a.put o.dst v) w') → o.wp P a w K (fun _ _ _ => False)
  else ∀ S ρ w, I S ρ w → (∀ i, predB ops i j = true → S i = true ∧ ρ i = V i) → (execOp a.eval o).run P w = .ok (.value (X j)) w
theorem frGo_unroll {I : (Nat → Bool) → (Nat → Value) → World → Prop} {V : Nat → Value} {fin : Act → Prop} : ∀ (l : List Oper) (k : Nat) (a : Act), (∀ i, i < l.length → l[i]? = ops[k + i]?) → frGo P ops I V fin k l a →
    ∃ X : Nat → Value, (∀ i o, l[i]? = some o → Ob P ops I V X (k + i) o (putAll ops X (List.range' k i) a)) ∧ fin (putAll ops X (List.range' k l.length) a)
  | [], k, a, _, h => ⟨V, fun i o hi => by simp at hi, h⟩
  | o :: l, k, a, hl, h => by
    have h0 : dstAt ops k = o.dst := by
      have := hl 0 (by simp)
      simp only [List.getElem?_cons_zero, Nat.add_zero] at this
      unfold dstAt
      rw [← this]
      rfl
    have hl' : ∀ i, i < l.length → l[i]? = ops[k + 1 + i]? := fun i hi => by
      have := hl (i + 1) (by simpa using hi)
      simpa [Nat.add_assoc, Nat.add_comm 1 i] using this
    have step : ∀ x : Value, frGo P ops I V fin (k + 1) l (a.put o.dst x) → (∀ Y : Nat → Value, Y k = x → Ob P ops I V Y k o a) →
        ∃ X : Nat → Value, (∀ i o', (o :: l)[i]? = some o' → Ob P ops I V X (k + i) o' (putAll ops X (List.range' k i) a)) ∧ fin (putAll ops X (List.range' k (o :: l).length) a) := by
      intro x hx hob
      obtain ⟨X, h1, h2⟩ := frGo_unroll l (k + 1) _ hl' hx
      have hcong : ∀ (m : Nat) (b : Act), putAll ops (upd X k x) (List.range' (k + 1) m) b = putAll ops X (List.range' (k + 1) m) b := fun m b => putAll_congr _ _ fun j hj => upd_ne _ _ (by have := List.mem_range'.1 hj; omega)
      refine ⟨upd X k x, fun i o' hi => ?_, ?_⟩
      · cases i with
        | zero =>
          simp only [List.getElem?_cons_zero, Option.some.injEq] at hi
          subst hi
          exact hob _ (upd_same _ _ _)
        | succ i =>
          have h3 := h1 i o' (by simpa using hi)
          have e : putAll ops (upd X k x) (List.range' k (i + 1)) a = putAll ops X (List.range' (k + 1) i) (a.put o.dst x) := by
            rw [List.range'_succ]
            show putAll ops (upd X k x) _ (a.put (dstAt ops k) (upd X k x k)) = _
            rw [upd_same, h0, hcong]
          rw [e, show k + (i + 1) = k + 1 + i by omega]
          unfold Ob at h3 ⊢
          split
          · rename_i ha
            rw [if_pos ha] at h3
            exact ⟨by rw [upd_ne _ _ (by omega)]; exact h3.1, h3.2⟩
          · rename_i ha
            rw [if_neg ha] at h3
            rw [upd_ne _ _ (by omega)]
            exact h3
      · rw [List.length_cons, List.range'_succ]
        show fin (putAll ops (upd X k x) _ (a.put (dstAt ops k) (upd X k x k)))
        rw [upd_same, h0, hcong]
        exact h2
    unfold frGo at h
    split at h
    · rename_i ha
      refine step (V k) h.2 fun Y hY => ?_
      unfold Ob
      rw [if_pos ha]
      exact ⟨hY, h.1⟩
    · rename_i ha
      obtain ⟨x, hx, h⟩ := h
      refine step x h fun Y hY => ?_
      unfold Ob
      rw [if_neg ha, hY]
      exact hx

/-- An act runs alike from two frames that it cannot tell apart. -/
theorem wp_move {o : Oper} {a b : Act} {w : World} {d : Tmp} {G : Value → World → Prop} {K : Act → World → Prop} {F : Exit → Act → World → Prop} (he : execOp a.eval o = execOp b.eval o) (hd : o.dst = some d) (hb : d < a.tmps.size)
    (h : o.wp P a w (fun a' w' => ∃ v, a' = a.put o.dst v ∧ G v w') (fun _ _ _ => False)) (hk : ∀ v w', G v w' → K (b.put o.dst v) w') : o.wp P b w K F := by
  have inj : ∀ (c : Act) (u v : Value), c.tmps.size = a.tmps.size → c.put o.dst u = c.put o.dst v → u = v := by
    intro c u v hc e
    have := congrArg (fun x : Act => x.tmps[d]?) e
    simp only [hd, Act.put, Array.getElem?_setIfInBounds_self, hc, hb, if_true, Option.some.injEq] at this
    exact this
  unfold Oper.wp at h ⊢
  rw [← he]
  generalize (execOp a.eval o).run P w = r at h ⊢
  have ret : ∀ (u : Value) (w' : World), (∃ v, a.put o.dst u = a.put o.dst v ∧ G v w') → K (b.put o.dst u) w' := by
    rintro u w' ⟨v, e, hg⟩
    have := inj a u v rfl e
    subst this
    exact hk _ _ hg
  cases r with
  | ok n w' =>
    cases n <;> simp only [Oper.upon] at h ⊢ <;>
      first
        | exact ret _ _ h
        | exact Calls.mono h (fun e w'' he => by
            cases e with
            | returned u => exact ret _ _ he
            | panicked c => exact he.elim
            | outgrown => obtain ⟨_, _, hf⟩ := he; exact hf.elim)
        | exact Rows.mono h (fun _ _ he => ret _ _ he)
        | (obtain ⟨v, e, _⟩ := h
           have := congrArg (fun x : Act => x.defers.length) e
           cases hdd : o.dst <;> simp [Act.put, hdd] at this)
        | exact h.elim
  | halt q w' => cases q <;> simp only [Oper.upon] at h ⊢ <;> first | exact h.elim | exact h

theorem tail_ready {T : Nat} (hf : Free ops T) {listed : Array Bool} (hc : Closed ops listed) {i k : Nat} (hk : T ≤ k) (hu : ∀ j, j < k → listed.getD j true = true) (hn : listed.getD k true = false) (hr : i ∈ Region.ready .any ops listed) : i = k := by
  obtain ⟨hl, o, ho, _⟩ := mem_ready.1 hr
  have hin : i < ops.size := (Array.getElem?_eq_some_iff.1 ho).1
  rcases Nat.lt_trichotomy i k with h | h | h
  · rw [hu i h] at hl; cases hl
  · exact h
  · have h1 := (hf.post i (by omega) hin k h).ready hc hr
    have h2 := getD_both hn
    rw [h1] at h2; cases h2

theorem wpOp_mix {Q : Exit → Act → World → Prop} {i : Nat} {o : Oper} (ho : ops[i]? = some o) {K K' : Act → World → Prop} {a : Act} {w : World} (h : mixOp P ops o K a w) (hk : ∀ a w, K a w → K' a w) : wpOp P ops Q i K' a w := by
  unfold wpOp
  simp only [ho]
  unfold mixOp at h
  split
  · rename_i hw
    rw [if_pos hw] at h
    refine .inl ?_
    split at h
    · exact upon_mono hk h
    · obtain ⟨v, hv, h⟩ := h
      unfold Oper.wp
      rw [hv]
      exact hk _ _ h
  · rename_i hw
    rw [if_neg hw] at h
    exact hk _ _ h
theorem closed_set {listed : Array Bool} (hc : Closed ops listed) {i : Nat} (hr : i ∈ Region.ready .any ops listed) : Closed ops (listed.setIfInBounds i true) := by
  obtain ⟨_, o, ho, hall⟩ := mem_ready.1 hr
  intro j oj hj hlj e he hb
  by_cases hji : j = i
  · subst hji
    rw [ho] at hj
    cases hj
    exact getD_set_true (hall e he hb)
  · rw [getD_set_ne false (fun e => hji e.symm)] at hlj
    exact getD_set_true (hc j oj hj hlj e he hb)
theorem ready_some {T : Nat} (hf : Free ops T) {listed : Array Bool} (hs : listed.size = ops.size) {k : Nat} (hu : ∀ j, j < k → listed.getD j true = true) (hk : k < ops.size) (hn : listed.getD k true = false) : k ∈ Region.ready .any ops listed := by
  refine mem_ready.2 ⟨hn, ops[k], Array.getElem?_eq_getElem hk, fun e he hb => ?_⟩
  have hlt := hf.back k _ (Array.getElem?_eq_getElem hk) e he hb
  have := hu e.on hlt
  have h2 : e.on < listed.size := by omega
  simp [h2] at this ⊢
  exact this
theorem set_get {listed : Array Bool} {i j : Nat} (hs : i < listed.size) : (listed.setIfInBounds i true).getD j true = (decide (j = i) || listed.getD j true) := by
  by_cases h : j = i
  · subst h; simp [hs]
  · rw [getD_set_ne true (fun e => h e.symm)]; simp [h]

/-- The operations from T on come in the order of the text. -/
theorem wpAny_tail {Q : Exit → Act → World → Prop} {T : Nat} (hf : Free ops T) : ∀ (fuel : Nat) (k : Nat) (l : List Oper) (listed : Array Bool) (a : Act) (w : World), T ≤ k → listed.size = ops.size → Closed ops listed → (∀ j, j < k → listed.getD j true = true) → (∀ j, k ≤ j → j < ops.size → listed.getD j true = false) →
    (∀ j, l[j]? = ops[k + j]?) → k + l.length = ops.size → l.length ≤ fuel → wpMix P ops (fun a w => Q .normal a w) l a w → wpAny P .any ops Q fuel listed a w := by
  intro fuel
  induction fuel with
  | zero =>
    intro k l listed a w hk hs hc hu hn hl hlen hfu h
    have hl0 : l = [] := List.eq_nil_of_length_eq_zero (by omega)
    subst hl0
    refine ⟨?_, h⟩
    cases hr : Region.ready .any ops listed with
    | nil => rfl
    | cons i r =>
      obtain ⟨h1, o, ho, _⟩ := mem_ready.1 (show i ∈ Region.ready .any ops listed by rw [hr]; exact List.mem_cons_self)
      have := hu i (by have := (Array.getElem?_eq_some_iff.1 ho).1; simp at hlen; omega)
      rw [h1] at this; cases this
  | succ fuel ih =>
    intro k l listed a w hk hs hc hu hn hl hlen hfu h
    cases l with
    | nil =>
      refine ⟨fun _ => h, fun i hi => ?_⟩
      obtain ⟨h1, o, ho, _⟩ := mem_ready.1 hi
      have := hu i (by have := (Array.getElem?_eq_some_iff.1 ho).1; simp at hlen; omega)
      rw [h1] at this; cases this
    | cons o l =>
      have hks : k < ops.size := by simp at hlen; omega
      have hkn := hn k (Nat.le_refl _) hks
      have hready := ready_some hf hs hu hks hkn
      refine ⟨fun hr => by rw [hr] at hready; simp at hready, fun i hi => ?_⟩
      obtain rfl := tail_ready hf hc hk hu hkn hi
      have ho : ops[i]? = some o := by simpa using (hl 0).symm
      refine wpOp_mix ho h fun a w h => ih (i + 1) l _ a w (by omega) (by simpa using hs) (closed_set hc hi) (fun j hj => ?_) (fun j hj hj2 => ?_) (fun j => ?_) (by simp at hlen; omega) (by simp at hfu; omega) h
      · rw [set_get (by omega)]
        by_cases h : j = i
        · simp [h]
        · simp [hu j (by omega)]
      · rw [set_get (by omega)]
        simp [hn j (by omega) hj2, show ¬ j = i by omega]
      · have := hl (j + 1)
        simpa [Nat.add_assoc, Nat.add_comm 1 j] using this

theorem range_split {i T : Nat} (h : i ≤ T) : List.range T = List.range i ++ List.range' i (T - i) := by
  apply List.ext_getElem?
  intro j
  by_cases hj : j < i
  · rw [List.getElem?_append_left (by simpa using hj)]
    simp [hj, show j < T by omega]
  · rw [List.getElem?_append_right (by simp; omega)]
    simp only [List.length_range]
    by_cases hT : j < T
    · rw [List.getElem?_range hT, List.getElem?_range' (by omega)]
      congr 1
      omega
    · rw [List.getElem?_eq_none (by simp; omega), List.getElem?_eq_none (by simp; omega)]
/-- The first T operations that have been carried out. -/
def doneOf (T : Nat) (listed : Array Bool) : List Nat := (List.range T).filter fun j => listed.getD j true
theorem done_pair {T : Nat} (hf : Free ops T) {js : List Nat} (hs : js.Sublist (List.range T)) : js.Pairwise (fun j k => ∀ d, dstAt ops k = some d → dstAt ops j ≠ some d) := by
  have h1 : js.Pairwise (· < ·) := List.Pairwise.sublist hs List.pairwise_lt_range
  have h2 : ∀ j ∈ js, j < T := fun j hj => List.mem_range.1 (hs.mem hj)
  refine h1.imp_of_mem fun {j k} hj hk hlt d hd hd' => ?_
  have hkT := h2 k hk
  have hks : k < ops.size := by have := hf.le; omega
  have hjs : j < ops.size := by omega
  have := ((hf.pre k _ hkT (Array.getElem?_eq_getElem hks)).2.2 j hlt _ (Array.getElem?_eq_getElem hjs)).2
  unfold dstAt at hd hd'
  rw [Array.getElem?_eq_getElem hks] at hd
  rw [Array.getElem?_eq_getElem hjs] at hd'
  exact this (by simpa using hd'.trans hd.symm)
/-- An operation that may come up sees what it sees in the order of the text. -/
theorem exec_done {X : Nat → Value} {T : Nat} (hf : Free ops T) {listed : Array Bool} (hs : listed.size = ops.size) (hc : Closed ops listed) {i : Nat} {o : Oper} (ho : ops[i]? = some o) (hi : i < T) (hr : i ∈ Region.ready .any ops listed) (a : Act) :
    execOp (putAll ops X (doneOf T listed) a).eval o = execOp (putAll ops X (List.range i) a).eval o := by
  have hlist := (mem_ready.1 hr).1
  have hsel := fun cs b => hf.sel i o cs b ho
  have looks : ∀ j x, ops[j]? = some x → (∀ d, x.dst = some d → d ∉ o.looksAt ops) → ∀ d, dstAt ops j = some d → d ∉ o.looksAt ops := by
    intro j x hx h d hd
    unfold dstAt at hd
    rw [hx] at hd
    exact h d hd
  rw [exec_filter hsel (fun j => decide (j < i)) (doneOf T listed) a (done_pair hf List.filter_sublist) (fun j hj hk => ?_), exec_filter hsel (fun j => listed.getD j true) (List.range i) a (done_pair hf (List.range_sublist.2 (by omega))) (fun j hj hk => ?_)]
  · congr 2
    congr 1
    unfold doneOf
    rw [range_split (show i ≤ T by omega)]
    rw [List.filter_append, List.filter_append]
    rw [show (List.filter (fun j => decide (j < i)) (List.filter (fun j => listed.getD j true) (List.range' i (T - i)))) = [] from List.filter_eq_nil_iff.2 fun j hj => by
      have := List.mem_range'.1 (List.mem_filter.1 hj).1
      simp
      omega]
    rw [List.append_nil]
    exact List.filter_eq_self.2 fun j hj => by simpa using (List.mem_filter.1 hj).1
  · have hj' : j < i := List.mem_range.1 hj
    have hjs : j < ops.size := by have := hf.le; omega
    refine looks j _ (Array.getElem?_eq_getElem hjs) ?_
    rcases ((hf.pre i o hi ho).2.2 j hj' _ (Array.getElem?_eq_getElem hjs)).1 with hb | hb
    · have := hb.ready hc hr
      have h2 := getD_both (by simpa using hk)
      rw [this] at h2; cases h2
    · exact (Oper.apart_spec hb).1
  · have hjT : j < T := List.mem_range.1 (List.mem_filter.1 hj).1
    have hjl : listed.getD j true = true := by simpa using (List.mem_filter.1 hj).2
    have hji : i < j := by
      have h1 : ¬ j < i := by simpa using hk
      rcases Nat.lt_or_ge i j with h | h
      · exact h
      · have : j = i := by omega
        subst this
        rw [hlist] at hjl; cases hjl
    have hjs : j < ops.size := by have := hf.le; omega
    refine looks j _ (Array.getElem?_eq_getElem hjs) ?_
    rcases ((hf.pre j _ hjT (Array.getElem?_eq_getElem hjs)).2.2 i hji o ho).1 with hb | hb
    · have hjf : listed.getD j false = true := by have : j < listed.size := by omega
                                                  simp [this] at hjl ⊢; exact hjl
      have := hb.listed hc hjf
      have h2 := getD_both hlist
      rw [this] at h2; cases h2
    · exact (Oper.apart_spec hb).2.2
theorem put_done {X : Nat → Value} {T : Nat} (hf : Free ops T) {listed : Array Bool} (hs : listed.size = ops.size) {i : Nat} {o : Oper} (ho : ops[i]? = some o) (hi : i < T) (hl : listed.getD i true = false) (a : Act) :
    (putAll ops X (doneOf T listed) a).put o.dst (X i) = putAll ops X (doneOf T (listed.setIfInBounds i true)) a := by
  have his : i < listed.size := by have := hf.le; omega
  have hd : dstAt ops i = o.dst := by unfold dstAt; rw [ho]; rfl
  have e : List.range T = List.range i ++ i :: List.range' (i + 1) (T - (i + 1)) := by
    rw [← List.range'_succ, show T - (i + 1) + 1 = T - i by omega]
    exact range_split (by omega)
  have eq1 : ∀ l : List Nat, i ∉ l → l.filter (fun j => (listed.setIfInBounds i true).getD j true) = l.filter (fun j => listed.getD j true) := fun l hil => List.filter_congr fun j hj => by
    rw [set_get his]
    have : ¬ j = i := fun e => hil (e ▸ hj)
    simp [this]
  have n1 : i ∉ List.range i := by simp
  have n2 : i ∉ List.range' (i + 1) (T - (i + 1)) := by intro h; have := List.mem_range'.1 h; omega
  have hp := done_pair hf (List.Sublist.refl (List.range T))
  unfold doneOf
  rw [e] at hp ⊢
  rw [List.filter_append, List.filter_append, List.filter_cons, List.filter_cons, eq1 _ n1, eq1 _ n2, hl, set_get his]
  simp only [decide_true, Bool.true_or, if_true, Bool.false_eq_true, if_false]
  rw [putAll_append, putAll_append]
  unfold putAll
  rw [hd, putAll_put]
  · cases hq : List.filter (fun j => listed.getD j true) (List.range' (i + 1) (T - (i + 1))) <;> rfl
  · intro k hk d hdk hdi
    have hkr := (List.mem_filter.1 hk).1
    have := (List.pairwise_cons.1 (List.pairwise_append.1 hp).2.1).1 k hkr d hdk
    rw [hd] at this
    exact this hdi

theorem Before.lt {T : Nat} (hf : Free ops T) {y i : Nat} (h : Before ops y i) : y < i := by
  induction h with
  | edge hi he hb => exact hf.back _ _ hi _ he hb
  | trans hi he hb _ ih => have := hf.back _ _ hi _ he hb; omega
theorem least {listed : Array Bool} : ∀ j, listed.getD j true = false → ∃ k, k ≤ j ∧ listed.getD k true = false ∧ ∀ m, m < k → listed.getD m true = true := by
  intro j
  induction j using Nat.strongRecOn with
  | _ j ih =>
    intro hj
    by_cases h : ∃ m, m < j ∧ listed.getD m true = false
    · obtain ⟨m, hm, hl⟩ := h
      obtain ⟨k, h1, h2, h3⟩ := ih m hm hl
      exact ⟨k, by omega, h2, h3⟩
    · refine ⟨j, Nat.le_refl _, hj, fun m hm => ?_⟩
      cases hb : listed.getD m true with
      | true => rfl
      | false => exact absurd ⟨m, hm, hb⟩ h
theorem todo_less {n : Nat} {listed : Array Bool} {i : Nat} (hi : i < n) (hs : i < listed.size) (hl : listed.getD i true = false) : (todoOf n (listed.setIfInBounds i true)).length < (todoOf n listed).length := by
  have e : todoOf n (listed.setIfInBounds i true) = (todoOf n listed).filter (fun j => decide (j ≠ i)) := by
    unfold todoOf
    rw [List.filter_filter]
    apply List.filter_congr
    intro j hj
    rw [set_get hs]
    by_cases h : j = i <;> simp [h]
  rw [e]
  exact List.length_filter_lt_length_iff_exists.2 ⟨i, mem_todo.2 ⟨hi, hl⟩, by simp⟩
theorem todo_tail {n T m : Nat} {listed : Array Bool} (h : T + m = n) (hl : ∀ j, T ≤ j → j < n → listed.getD j true = false) : m ≤ (todoOf n listed).length := by
  unfold todoOf
  rw [range_split (show T ≤ n by omega), List.filter_append, List.length_append]
  rw [show List.filter (fun j => !listed.getD j true) (List.range' T (n - T)) = List.range' T (n - T) from List.filter_eq_self.2 fun j hj => by
    have := List.mem_range'.1 hj
    rw [hl j (by omega) (by omega)]
    rfl]
  rw [List.length_range']
  omega

theorem wpAny_of_free {Q : Exit → Act → World → Prop} {T : Nat} {I : (Nat → Bool) → (Nat → Value) → World → Prop} (hf : Free ops T) {a0 : Act} {tail : List Oper} (htail : ∀ j, tail[j]? = ops[T + j]?) (hlen : T + tail.length = ops.size)
    (hsz : ∀ i o d, i < T → ops[i]? = some o → o.dst = some d → d < a0.tmps.size)
    (hV : ∀ V, ∃ X, (∀ i o, i < T → ops[i]? = some o → Ob P ops I V X i o (putAll ops X (List.range i) a0)) ∧
      ∀ S ρ w, I S ρ w → (∀ j, j < T → actAt ops j = true → S j = true ∧ ρ j = V j) → wpMix P ops (fun a w => Q .normal a w) tail (putAll ops X (List.range T) a0) w) :
    ∀ (fuel : Nat) (listed : Array Bool) (a : Act) (w : World) (S : Nat → Bool) (ρ : Nat → Value), listed.size = ops.size → Closed ops listed → (todoOf ops.size listed).length ≤ fuel → (∀ j, T ≤ j → j < ops.size → listed.getD j true = false) →
      I S ρ w → (∀ j, S j = true ↔ j < T ∧ actAt ops j = true ∧ listed.getD j true = true) →
      (∀ V, (∀ j, S j = true → V j = ρ j) → ∀ X, (∀ i o, i < T → ops[i]? = some o → Ob P ops I V X i o (putAll ops X (List.range i) a0)) → a = putAll ops X (doneOf T listed) a0) → wpAny P .any ops Q fuel listed a w := by
  have full : ∀ (fuel : Nat) (listed : Array Bool) (a : Act) (w : World) (S : Nat → Bool) (ρ : Nat → Value), listed.size = ops.size → Closed ops listed → (todoOf ops.size listed).length ≤ fuel → (∀ j, T ≤ j → j < ops.size → listed.getD j true = false) →
      I S ρ w → (∀ j, S j = true ↔ j < T ∧ actAt ops j = true ∧ listed.getD j true = true) →
      (∀ V, (∀ j, S j = true → V j = ρ j) → ∀ X, (∀ i o, i < T → ops[i]? = some o → Ob P ops I V X i o (putAll ops X (List.range i) a0)) → a = putAll ops X (doneOf T listed) a0) →
      (∀ j, j < T → listed.getD j true = true) → wpAny P .any ops Q fuel listed a w := by
    intro fuel listed a w S ρ hs hc htodo hun hI hS hA hall
    obtain ⟨X, hOb, hfin⟩ := hV ρ
    have ha := hA ρ (fun _ _ => rfl) X hOb
    have hd : doneOf T listed = List.range T := List.filter_eq_self.2 fun j hj => hall j (List.mem_range.1 hj)
    rw [hd] at ha
    refine wpAny_tail hf fuel T tail listed a w (Nat.le_refl _) hs hc hall hun htail hlen (Nat.le_trans (todo_tail hlen hun) htodo) ?_
    rw [ha]
    exact hfin S ρ w hI fun j hj hact => ⟨(hS j).2 ⟨hj, hact, hall j hj⟩, rfl⟩
  intro fuel
  induction fuel with
  | zero =>
    intro listed a w S ρ hs hc htodo hun hI hS hA
    refine full 0 listed a w S ρ hs hc htodo hun hI hS hA fun j hj => ?_
    cases hb : listed.getD j true with
    | true => rfl
    | false =>
      have : j ∈ todoOf ops.size listed := mem_todo.2 ⟨by have := hf.le; omega, hb⟩
      rw [List.eq_nil_of_length_eq_zero (Nat.le_zero.1 htodo)] at this
      simp at this
  | succ fuel ih =>
    intro listed a w S ρ hs hc htodo hun hI hS hA
    by_cases hall : ∀ j, j < T → listed.getD j true = true
    · exact full _ listed a w S ρ hs hc htodo hun hI hS hA hall
    · have hex : ∃ j, j < T ∧ listed.getD j true = false := by
        refine Classical.byContradiction fun hne => hall fun j hj => ?_
        cases hb : listed.getD j true with
        | true => rfl
        | false => exact absurd ⟨j, hj, hb⟩ hne
      obtain ⟨j0, hj0, hl0⟩ := hex
      refine ⟨fun hr => ?_, fun i hi => ?_⟩
      · obtain ⟨k, h1, h2, h3⟩ := least j0 hl0
        have := ready_some hf hs h3 (by have := hf.le; omega) h2
        rw [hr] at this
        simp at this
      · obtain ⟨hlist, o, ho, _⟩ := mem_ready.1 hi
        have hin : i < ops.size := (Array.getElem?_eq_some_iff.1 ho).1
        have hiT : i < T := by
          rcases Nat.lt_or_ge i T with h | h
          · exact h
          · have h1 := (hf.post i h hin j0 (by omega)).ready hc hi
            have h2 := getD_both hl0
            rw [h1] at h2; cases h2
        obtain ⟨hg, ⟨d, hd⟩, _⟩ := hf.pre i o hiT ho
        obtain ⟨X0, hOb, _⟩ := hV ρ
        have ha := hA ρ (fun _ _ => rfl) X0 hOb
        have hob := hOb i o hiT ho
        have hSi : S i = false := by
          cases hb : S i with
          | false => rfl
          | true => have := ((hS i).1 hb).2.2; rw [hlist] at this; cases this
        have hpred : ∀ j, predB ops j i = true → S j = true := by
          intro j hj
          unfold predB at hj
          simp only [Bool.and_eq_true] at hj
          have hb := bef_spec hj.2
          have hlt := Before.lt hf hb
          have := hb.ready hc hi
          have hjs : j < listed.size := by omega
          exact (hS j).2 ⟨by omega, hj.1, by simp [hjs] at this ⊢; exact this⟩
        have hexec := fun X => exec_done (X := X) hf hs hc ho hiT hi a0
        have hwant : Region.wanted o (yielded ops a.tmps) = true := by simp [Region.wanted, hg]
        have hlen' := todo_less (n := ops.size) hin (by omega) hlist
        have hun' : ∀ j, T ≤ j → j < ops.size → (listed.setIfInBounds i true).getD j true = false := fun j h1 h2 => by
          rw [set_get (by omega)]
          simp [hun j h1 h2, show ¬ j = i by omega]
        unfold wpOp
        simp only [ho, hwant, if_true]
        refine .inl ?_
        by_cases hact : actB o = true
        · have hai : actAt ops i = true := by unfold actAt; rw [ho]; exact hact
          unfold Ob at hob
          rw [if_pos hact] at hob
          have h1 := hob.2 S ρ w hI hSi (fun j hj => ⟨hpred j hj, rfl⟩) (fun a' w' => ∃ v, a' = (putAll ops X0 (List.range i) a0).put o.dst v ∧ I (upd S i true) (upd ρ i v) w') (fun v w' h => ⟨v, rfl, h⟩)
          refine wp_move (a := putAll ops X0 (List.range i) a0) (by rw [ha]; exact (hexec X0).symm) hd (by rw [putAll_size]; exact hsz i o d hiT ho hd) h1 fun v w' hI' => ?_
          refine ih (listed.setIfInBounds i true) _ w' (upd S i true) (upd ρ i v) (by simpa using hs) (closed_set hc hi) (by omega) hun' hI' (fun j => ?_) fun V hVr X hX => ?_
          · rw [set_get (by omega)]
            by_cases hji : j = i
            · subst hji
              simp [hiT, hai]
            · rw [upd_ne _ _ hji, hS j]
              simp [hji]
          · have hVs : ∀ j, S j = true → V j = ρ j := fun j hj => by
              have hji : j ≠ i := fun e => by rw [e, hSi] at hj; cases hj
              have := hVr j (by rw [upd_ne _ _ hji]; exact hj)
              rw [upd_ne _ _ hji] at this
              exact this
            have hx := hX i o hiT ho
            unfold Ob at hx
            rw [if_pos hact] at hx
            have hxv : X i = v := by
              rw [hx.1, hVr i (upd_same _ _ _), upd_same]
            rw [hA V hVs X hX, ← hxv]
            exact put_done hf hs ho hiT hlist a0
        · have hai : actAt ops i = false := by unfold actAt; rw [ho]; simpa using hact
          unfold Ob at hob
          rw [if_neg hact] at hob
          have h1 := hob S ρ w hI (fun j hj => ⟨hpred j hj, rfl⟩)
          rw [← hexec X0, ← ha] at h1
          unfold Oper.wp
          rw [h1]
          refine ih (listed.setIfInBounds i true) _ w S ρ (by simpa using hs) (closed_set hc hi) (by omega) hun' hI (fun j => ?_) fun V hVr X hX => ?_
          · rw [set_get (by omega), hS j]
            by_cases hji : j = i
            · subst hji
              simp [hai]
            · simp [hji]
          · have hx := hX i o hiT ho
            unfold Ob at hx
            rw [if_neg hact] at hx
            have h2 := hx S ρ w hI (fun j hj => ⟨hpred j hj, (hVr j (hpred j hj)).symm⟩)
            rw [← hexec X, ← hA V hVr X hX, h1] at h2
            have hxv : X0 i = X i := by simpa using h2
            rw [hA V hVr X hX, hxv]
            exact put_done hf hs ho hiT hlist a0

/-- THE RULE. -/
theorem wp_region_free {id : Nat} {Q : Exit → Act → World → Prop} {a : Act} {w : World} {l : List Oper} (T : Nat) (I : (Nat → Bool) → (Nat → Value) → World → Prop) (hm : P.follows .mixedOrders = true) (hB : freeB l.toArray T = true)
    (hsz : (l.take T).all (fun o => match o.dst with | some d => decide (d < a.tmps.size) | none => true) = true) (ρ0 : Nat → Value) (h0 : I (fun _ => false) ρ0 w.drew)
    (h : ∀ V, frGo P l.toArray I V (fun a' => ∀ S ρ w', I S ρ w' → (∀ j, j < T → actAt l.toArray j = true → S j = true ∧ ρ j = V j) → wpMix P l.toArray (fun a w => Q .normal a w) (l.drop T) a' w') 0 (l.take T) a) : (Code.region id l.toArray true).wp P Q a w := by
  have hf := free_of hB
  have hle : T ≤ l.length := by simpa using hf.le
  have htk : ∀ i o, i < T → l.toArray[i]? = some o → (l.take T)[i]? = some o := fun i o hi ho => by
    rw [List.getElem?_take, if_pos hi]
    simpa using ho
  refine wp_region_any hm ?_
  refine wpAny_of_free (I := I) (a0 := a) (tail := l.drop T) hf (fun j => by simp) (by simp; omega) (fun i o d hi ho hd => ?_) (fun V => ?_) _ _ a _ (fun _ => false) ρ0 (by simp) (fun j o ho hl => ?_) (Nat.le_trans (List.length_filter_le _ _) (by simp)) (fun j h1 h2 => ?_) h0 (fun j => ?_) (fun V _ X _ => ?_)
  · have := List.all_eq_true.1 hsz o (List.mem_of_getElem? (htk i o hi ho))
    rw [hd] at this
    simpa using this
  · obtain ⟨X, h1, h2⟩ := frGo_unroll (l.take T) 0 a (fun i hi => by
      have hi' : i < T := by rw [List.length_take] at hi; omega
      rw [List.getElem?_take, if_pos hi']
      simp) (h V)
    have e : ∀ i, List.range' 0 i = List.range i := fun i => (List.range_eq_range').symm
    refine ⟨X, fun i o hi ho => ?_, ?_⟩
    · have := h1 i o (htk i o hi ho)
      rw [e, Nat.zero_add] at this
      exact this
    · rw [e, List.length_take, Nat.min_eq_left hle] at h2
      exact h2
  · rw [getD_replicate_false] at hl; cases hl
  · have : j < l.length := by simpa using h2
    simp [this]
  · refine ⟨fun h => (by cases h), fun h => ?_⟩
    have hj : j < l.length := by omega
    have := h.2.2
    simp [hj] at this
  · have : doneOf T (Array.replicate l.toArray.size false) = [] := List.filter_eq_nil_iff.2 fun j hj => by
      have := List.mem_range.1 hj
      have : j < l.length := by omega
      simp [this]
    rw [this]
    rfl
end
end Go.Proofs.Ythlmfjoiicnomaa.FR
