/-
  PROVED HERE: plain facts on a search with marks: tables of texts, states with one memory told apart by their texts, how many there are, the first way to an outcome. plain facts on the first way to an outcome with one memory; what a search leaves. CONDITIONS: as each theorem states.
-/
import Derived.Test.YthlmfjoiicnomaaLes
import Derived.Test.YthlmfjoiicnomaaBf
namespace Go.Proofs.Ythlmfjoiicnomaa
open Go.RowKit
set_option linter.unusedVariables false
set_option linter.unusedSimpArgs false

/-- A list of different numbers below B has at most B of them. -/
theorem nodup_len : ∀ (B : Nat) (L : List Nat), L.Nodup → (∀ x ∈ L, x < B) → L.length ≤ B
  | 0, L, _, h => by
    cases L with
    | nil => exact Nat.le_refl _
    | cons x L => exact absurd (h x List.mem_cons_self) (Nat.not_lt_zero _)
  | B + 1, L, hn, h => by
    by_cases hB : B ∈ L
    · have h1 := nodup_len B (L.erase B) (hn.erase B) fun x hx => by
        have hm := (List.Nodup.mem_erase_iff hn).1 hx
        have := h x hm.2
        have := hm.1
        omega
      rw [List.length_erase_of_mem hB] at h1
      omega
    · have := nodup_len B L hn fun x hx => by
        have := h x hx
        have : x ≠ B := fun e => hB (e ▸ hx)
        omega
      omega
theorem nodup_code {α : Type} (f : α → Nat) (B : Nat) (L : List α) (hn : L.Nodup) (hb : ∀ x ∈ L, f x < B) (hi : ∀ x ∈ L, ∀ y ∈ L, f x = f y → x = y) : L.length ≤ B := by
  have h1 : (L.map f).Nodup := by
    rw [List.nodup_iff_pairwise_ne, List.pairwise_map]
    refine (List.nodup_iff_pairwise_ne.1 hn).imp_of_mem fun {a b} ha hb hab e => hab (hi a ha b hb e)
  have := nodup_len B (L.map f) h1 fun x hx => by
    obtain ⟨y, hy, rfl⟩ := List.mem_map.1 hx
    exact hb y hy
  simpa using this
/-- Numbers below c, as the digits of one number. -/
def code (c : Nat) : List Int → Nat
  | [] => 0
  | x :: xs => x.toNat + c * code c xs
theorem code_lt (c : Nat) (hc : 0 < c) : ∀ (n : Nat) (xs : List Int), xs.length ≤ n → (∀ x ∈ xs, 0 ≤ x ∧ x < c) → code c xs < c ^ n
  | n, [], h, _ => by simp [code]; exact Nat.pow_pos hc
  | 0, x :: xs, h, _ => by simp at h
  | n + 1, x :: xs, h, hx => by
    have h1 := code_lt c hc n xs (by simpa using h) fun y hy => hx y (List.mem_cons_of_mem _ hy)
    have h2 := hx x List.mem_cons_self
    have h3 : x.toNat < c := by omega
    show x.toNat + c * code c xs < c ^ (n + 1)
    rw [Nat.pow_succ]
    have h4 : c * (code c xs + 1) ≤ c * c ^ n := Nat.mul_le_mul_left c h1
    rw [Nat.mul_add, Nat.mul_one] at h4
    rw [Nat.mul_comm (c ^ n) c]
    omega
theorem code_inj (c : Nat) : ∀ (xs ys : List Int), xs.length = ys.length → (∀ x ∈ xs, 0 ≤ x ∧ x < c) → (∀ x ∈ ys, 0 ≤ x ∧ x < c) → code c xs = code c ys → xs = ys
  | [], [], _, _, _, _ => rfl
  | [], y :: ys, h, _, _, _ => by simp at h
  | x :: xs, [], h, _, _, _ => by simp at h
  | x :: xs, y :: ys, h, hx, hy, he => by
    have h1 := hx x List.mem_cons_self
    have h2 := hy y List.mem_cons_self
    have h3 : x.toNat < c := by omega
    have h4 : y.toNat < c := by omega
    have he : x.toNat + c * code c xs = y.toNat + c * code c ys := he
    have e1 : x.toNat = y.toNat := by
      have q1 := congrArg (· % c) he
      simp only [Nat.add_mul_mod_self_left, Nat.mod_eq_of_lt h3, Nat.mod_eq_of_lt h4] at q1
      exact q1
    have e2 : code c xs = code c ys := by
      have : c * code c xs = c * code c ys := by omega
      exact Nat.eq_of_mul_eq_mul_left (by omega) this
    rw [code_inj c xs ys (by simpa using h) (fun z hz => hx z (List.mem_cons_of_mem _ hz)) (fun z hz => hy z (List.mem_cons_of_mem _ hz)) e2]
    congr 1
    omega
/-- The text of a state. -/
def keyS (s : St) : ByteArray := strOfNums (keyB s)
theorem strOfNums_inj {xs ys : List Int} (hx : ∀ x ∈ xs, 0 ≤ x ∧ x ≤ 255) (hy : ∀ x ∈ ys, 0 ≤ x ∧ x ≤ 255) (h : strOfNums xs = strOfNums ys) : xs = ys := by
  have h1 : (xs.map fun n => UInt8.ofNat n.toNat) = ys.map fun n => UInt8.ofNat n.toNat := by
    rw [← strOfNums_data, ← strOfNums_data, h]
  have key : ∀ xs ys : List Int, (∀ x ∈ xs, 0 ≤ x ∧ x ≤ 255) → (∀ x ∈ ys, 0 ≤ x ∧ x ≤ 255) → (xs.map fun n => UInt8.ofNat n.toNat) = (ys.map fun n => UInt8.ofNat n.toNat) → xs = ys := by
    intro xs
    induction xs with
    | nil => intro ys _ _ h; cases ys with
      | nil => rfl
      | cons y ys => simp at h
    | cons x xs ih =>
      intro ys hx hy h
      cases ys with
      | nil => simp at h
      | cons y ys =>
        simp only [List.map_cons, List.cons.injEq] at h
        rw [ih ys (fun z hz => hx z (List.mem_cons_of_mem _ hz)) (fun z hz => hy z (List.mem_cons_of_mem _ hz)) h.2]
        congr 1
        have h1 := hx x List.mem_cons_self
        have h2 := hy y List.mem_cons_self
        have h3 := congrArg UInt8.toNat h.1
        rw [UInt8.toNat_ofNat', UInt8.toNat_ofNat'] at h3
        omega
  exact key xs ys hx hy h1
/-- A state with one memory, well formed. -/
structure G3 (p : Prg) (s : St) : Prop extends Good p s where
  nobuf : s.buf = []
theorem G3.start (p : Prg) : G3 p (start3 p 0) := ⟨good_start p 0, rfl⟩
theorem G3.step {p : Prg} {s : St} (h : G3 p s) (hv : Shape p) {t : Nat} (hg : goes p s t = true) : G3 p (do3 p s t) := ⟨h.toGood.do3 hv hg, h.nobuf⟩
theorem G3.keyB {p : Prg} {s : St} (h : G3 p s) : keyB s = s.pc ++ s.regs ++ s.mem := by
  unfold Proofs.Ythlmfjoiicnomaa.keyB
  rw [h.nobuf]
  simp [keyR]
theorem Good.pc7 {p : Prg} {s : St} (h : Good p s) (hv : Shape p) : ∀ x ∈ s.pc, 0 ≤ x ∧ x < 8 := by
  intro x hx
  obtain ⟨i, hi⟩ := List.mem_iff_getElem?.1 hx
  have hip : i < p.length := by rw [← h.pcl]; exact (List.getElem?_eq_some_iff.1 hi).1
  obtain ⟨k, hk, hkl⟩ := h.pcb i _ (List.getElem?_eq_getElem hip)
  rw [hi] at hk
  have := hv.row i _ (List.getElem?_eq_getElem hip)
  have := Option.some.inj hk
  omega
theorem G3.small {p : Prg} {s : St} (h : G3 p s) (hv : Shape p) : ∀ x ∈ Proofs.Ythlmfjoiicnomaa.keyB s, 0 ≤ x ∧ x ≤ 255 := by
  rw [h.keyB]
  intro x hx
  rcases List.mem_append.1 hx with hx | hx
  · rcases List.mem_append.1 hx with hx | hx
    · have := h.toGood.pc7 hv x hx; omega
    · have := h.regb x hx; omega
  · have := h.memb x hx; omega
theorem G3.inj {p : Prg} {s s' : St} (h : G3 p s) (h' : G3 p s') (hv : Shape p) (he : keyS s = keyS s') : s = s' := by
  have h1 := strOfNums_inj (h.small hv) (h'.small hv) he
  rw [h.keyB, h'.keyB] at h1
  have e1 : s.pc = s'.pc ∧ s.regs ++ s.mem = s'.regs ++ s'.mem := List.append_inj (by simpa using h1) (by rw [h.pcl, h'.pcl])
  have e2 := List.append_inj e1.2 (by rw [h.regl, h'.regl])
  have e3 : s.buf = s'.buf := by rw [h.nobuf, h'.nobuf]
  cases s; cases s'
  simp only at e1 e2 e3
  rw [e1.1, e2.1, e2.2, e3]
def code3 (s : St) : Nat := code 8 s.pc * 4 ^ 12 + code 4 (s.regs ++ s.mem)
theorem G3.code_lt {p : Prg} {s : St} (h : G3 p s) (hv : Shape p) : code3 s < 8 ^ 3 * 4 ^ 12 := by
  have h1 := Proofs.Ythlmfjoiicnomaa.code_lt 8 (by decide) 3 s.pc (by rw [h.pcl]; exact hv.len) (h.toGood.pc7 hv)
  have h2 := Proofs.Ythlmfjoiicnomaa.code_lt 4 (by decide) 12 (s.regs ++ s.mem) (by rw [List.length_append, h.regl, h.meml]; have := hv.len; omega) fun x hx => by
    rcases List.mem_append.1 hx with hx | hx
    · have := h.regb x hx; omega
    · have := h.memb x hx; omega
  unfold code3
  have : (code 8 s.pc + 1) * 4 ^ 12 ≤ 8 ^ 3 * 4 ^ 12 := Nat.mul_le_mul_right _ h1
  rw [Nat.add_mul, Nat.one_mul] at this
  omega
theorem G3.code_inj {p : Prg} {s s' : St} (h : G3 p s) (h' : G3 p s') (hv : Shape p) (he : code3 s = code3 s') : s = s' := by
  have b4 : ∀ {s : St}, G3 p s → ∀ x ∈ s.regs ++ s.mem, 0 ≤ x ∧ x < 4 := fun h x hx => by
    rcases List.mem_append.1 hx with hx | hx
    · have := h.regb x hx; omega
    · have := h.memb x hx; omega
  have l4 : ∀ {s : St}, G3 p s → (s.regs ++ s.mem).length ≤ 12 := fun h => by rw [List.length_append, h.regl, h.meml]; have := hv.len; omega
  have c1 := Proofs.Ythlmfjoiicnomaa.code_lt 4 (by decide) 12 _ (l4 h) (b4 h)
  have c2 := Proofs.Ythlmfjoiicnomaa.code_lt 4 (by decide) 12 _ (l4 h') (b4 h')
  unfold code3 at he
  have e0 : code 8 s.pc = code 8 s'.pc ∧ code 4 (s.regs ++ s.mem) = code 4 (s'.regs ++ s'.mem) := by
    generalize code 4 (s.regs ++ s.mem) = x at *
    generalize code 4 (s'.regs ++ s'.mem) = y at *
    generalize code 8 s.pc = u at *
    generalize code 8 s'.pc = v at *
    generalize 4 ^ 12 = q at *
    have q1 := congrArg (· / q) he
    have q2 := congrArg (· % q) he
    have hq : 0 < q := by omega
    simp only [Nat.mul_comm u q, Nat.mul_comm v q, Nat.mul_add_div hq, Nat.mul_add_mod, Nat.div_eq_of_lt c1, Nat.div_eq_of_lt c2, Nat.mod_eq_of_lt c1, Nat.mod_eq_of_lt c2, Nat.add_zero] at q1 q2
    exact ⟨q1, q2⟩
  have e1 := Proofs.Ythlmfjoiicnomaa.code_inj 8 _ _ (by rw [h.pcl, h'.pcl]) (h.toGood.pc7 hv) (h'.toGood.pc7 hv) e0.1
  have e2 := Proofs.Ythlmfjoiicnomaa.code_inj 4 _ _ (by rw [List.length_append, List.length_append, h.regl, h'.regl, h.meml, h'.meml]) (b4 h) (b4 h') e0.2
  refine h.inj h' hv ?_
  unfold keyS
  rw [h.keyB, h'.keyB, List.append_assoc, List.append_assoc, e1, e2]

/-- The table holds texts of states of I alone, each once. -/
structure TabOk (I : St → Prop) (tb : List (List ByteArray)) : Prop where
  len : tb.length = 4096
  nd : ∀ r ∈ tb, r.Nodup
  st : ∀ r ∈ tb, ∀ t ∈ r, ∃ s, I s ∧ t = keyS s
theorem TabOk.row_le {p : Prg} {tb : List (List ByteArray)} (h : TabOk (G3 p) tb) (hv : Shape p) (k : Nat) : (tb.getD k []).length ≤ 8000000000000 := by
  by_cases hk : k < tb.length
  · have hm : tb.getD k [] ∈ tb := by
      rw [List.getD_eq_getElem?_getD, List.getElem?_eq_getElem hk]
      exact List.getElem_mem _
    have key := h.st _ hm
    have hnd := h.nd _ hm
    generalize tb.getD k [] = r at *
    obtain ⟨f, hf⟩ : ∃ f : ByteArray → Nat, ∀ t ∈ r, ∃ s, G3 p s ∧ t = keyS s ∧ f t = code3 s := by
      refine ⟨fun t => open Classical in if h : ∃ s, G3 p s ∧ t = keyS s then code3 h.choose else 0, fun t ht => ?_⟩
      have h := key t ht
      refine ⟨h.choose, h.choose_spec.1, h.choose_spec.2, ?_⟩
      simp only
      rw [dif_pos h]
    have := nodup_code f (8 ^ 3 * 4 ^ 12) r hnd (fun t ht => by obtain ⟨s, h1, _, h3⟩ := hf t ht; rw [h3]; exact h1.code_lt hv) (fun t ht u hu e => by
      obtain ⟨s, h1, h2, h3⟩ := hf t ht
      obtain ⟨s', h1', h2', h3'⟩ := hf u hu
      rw [h3, h3'] at e
      rw [h2, h2', h1.code_inj h1' hv e])
    exact Nat.le_trans this (by decide)
  · rw [List.getD_eq_getElem?_getD, List.getElem?_eq_none (by omega)]
    simp
theorem hasT_iff {r : List ByteArray} {t : ByteArray} : hasT r t = true ↔ t ∈ r := by
  unfold hasT
  rw [List.any_eq_true]
  constructor
  · rintro ⟨x, hx, he⟩
    have : x = t := ByteArray.ext (eq_of_beq he)
    rw [← this]
    exact hx
  · intro h
    exact ⟨t, h, by simp⟩
theorem found_mark {tb : List (List ByteArray)} (h : tb.length = 4096) (t u : ByteArray) : foundT (markT tb t) u = true ↔ foundT tb u = true ∨ u = t := by
  have hlt : hashS t < tb.length := by rw [h]; exact hashTo_lt t t.size
  unfold foundT markT
  rw [hasT_iff, hasT_iff]
  by_cases e : hashS t = hashS u
  · have e1 : (tb.set (hashS t) (tb.getD (hashS t) [] ++ [t])).getD (hashS u) [] = tb.getD (hashS u) [] ++ [t] := by
      rw [← e, List.getD_eq_getElem?_getD, List.getElem?_set_self hlt]
      rfl
    rw [e1, List.mem_append, List.mem_singleton]
  · have e1 : (tb.set (hashS t) (tb.getD (hashS t) [] ++ [t])).getD (hashS u) [] = tb.getD (hashS u) [] := by
      rw [List.getD_eq_getElem?_getD, List.getElem?_set_ne e, ← List.getD_eq_getElem?_getD]
    rw [e1]
    constructor
    · exact .inl
    · rintro (h | rfl)
      · exact h
      · exact absurd rfl e
theorem TabOk.mark {I : St → Prop} {tb : List (List ByteArray)} (h : TabOk I tb) {s : St} (hs : I s) (hf : foundT tb (keyS s) = false) : TabOk I (markT tb (keyS s)) := by
  have hlt : hashS (keyS s) < tb.length := by rw [h.len]; exact hashTo_lt _ _
  have hm : tb.getD (hashS (keyS s)) [] ∈ tb := by
    rw [List.getD_eq_getElem?_getD, List.getElem?_eq_getElem hlt]
    exact List.getElem_mem _
  refine ⟨by unfold markT; rw [List.length_set]; exact h.len, fun r hr => ?_, fun r hr t ht => ?_⟩
  · unfold markT at hr
    rcases List.mem_or_eq_of_mem_set hr with hr | rfl
    · exact h.nd r hr
    · rw [List.nodup_append]
      refine ⟨h.nd _ hm, by simp, fun a ha b hb => ?_⟩
      rw [List.mem_singleton] at hb
      rintro rfl
      subst hb
      have : foundT tb (keyS s) = true := hasT_iff.2 ha
      rw [this] at hf
      cases hf
  · unfold markT at hr
    rcases List.mem_or_eq_of_mem_set hr with hr | rfl
    · exact h.st r hr t ht
    · rcases List.mem_append.1 ht with ht | ht
      · exact h.st _ hm t ht
      · rw [List.mem_singleton] at ht
        exact ⟨s, hs, ht⟩
theorem TabOk.start (I : St → Prop) : TabOk I (List.replicate 4096 []) :=
  ⟨List.length_replicate, fun r hr => by rw [(List.mem_replicate.1 hr).2]; exact .nil, fun r hr t ht => by rw [(List.mem_replicate.1 hr).2] at ht; cases ht⟩
theorem found_start (t : ByteArray) : foundT (List.replicate 4096 []) t = false := by
  cases h : foundT (List.replicate 4096 []) t with
  | false => rfl
  | true =>
    unfold foundT at h
    rw [hasT_iff] at h
    rw [List.getD_eq_getElem?_getD, List.getElem?_replicate] at h
    split at h <;> cases h
end Go.Proofs.Ythlmfjoiicnomaa
namespace Go.Proofs.Ythlmfjoiicnomaa
open Go.RowKit
set_option linter.unusedVariables false
set_option linter.unusedSimpArgs false

theorem first_none {α : Type} {f : Nat → Option α} : ∀ {n : Nat}, (∀ t, t < n → f t = none) → (List.range n).findSome? f = none
  | n, h => List.findSome?_eq_none_iff.2 fun t ht => h t (List.mem_range.1 ht)
theorem first_some {α : Type} {f : Nat → Option α} {k : Nat} {x : α} (h : ∀ t, t < k → f t = none) (hk : f k = some x) : ∀ n, k < n → (List.range n).findSome? f = some x
  | 0, hn => absurd hn (Nat.not_lt_zero _)
  | n + 1, hn => by
    rw [List.range_succ, List.findSome?_append]
    by_cases e : k = n
    · subst e
      rw [first_none h]
      simp [hk]
    · rw [first_some h hk n (by omega)]
      rfl
theorem left_do3 {p : Prg} {s : St} (h : Good p s) (hv : Shape p) {t : Nat} (hg : goes p s t = true) : left4 p (do3 p s t) < left4 p s := by
  obtain ⟨xs, k, x, hp, hk, hx, hiv, hn, _⟩ := h.next hv hg
  unfold left4
  rw [left_pc h hp hk hx]
  have : 1 ≤ cost4 x := by unfold cost4; split <;> omega
  show ((List.range p.length).map (leftT p (s.pc.set t (s.pc.getD t 0 + 1)))).sum + (s.buf.map List.length).sum < _
  omega
/-- The first way from a state to an outcome. -/
def best3 (p : Prg) (o : List Int) : Nat → St → Option (List Int)
  | 0, _ => none
  | n + 1, s => if done3 p s then (if out3 s = o then some [] else none) else (List.range p.length).findSome? fun t => if goes p s t then (best3 p o n (do3 p s t)).map ((t : Int) :: ·) else none
theorem best3_fuel {p : Prg} (hv : Shape p) (o : List Int) : ∀ (n m : Nat) (s : St), Good p s → left4 p s < n → left4 p s < m → best3 p o n s = best3 p o m s
  | 0, _, s, _, h, _ => absurd h (Nat.not_lt_zero _)
  | _ + 1, 0, s, _, _, h => absurd h (Nat.not_lt_zero _)
  | n + 1, m + 1, s, hg, h1, h2 => by
    unfold best3
    split
    · rfl
    · congr 1
      funext t
      split
      · rename_i hgo
        have := left_do3 hg hv hgo
        rw [best3_fuel hv o n m _ (hg.do3 hv hgo) (by omega) (by omega)]
      · rfl
def bestS (p : Prg) (o : List Int) (s : St) : Option (List Int) := best3 p o (left4 p s + 1) s
theorem bestS_done {p : Prg} {o : List Int} {s : St} (h : done3 p s = true) : bestS p o s = if out3 s = o then some [] else none := by
  unfold bestS best3
  rw [if_pos h]
theorem bestS_step {p : Prg} (hv : Shape p) {o : List Int} {s : St} (hg : Good p s) (h : done3 p s = false) : bestS p o s = (List.range p.length).findSome? fun t => if goes p s t then (bestS p o (do3 p s t)).map ((t : Int) :: ·) else none := by
  unfold bestS
  rw [best3, if_neg (by rw [h]; decide)]
  congr 1
  funext t
  split
  · rename_i hgo
    have := left_do3 hg hv hgo
    rw [best3_fuel hv o _ (left4 p (do3 p s t) + 1) _ (hg.do3 hv hgo) this (by omega)]
  · rfl
/-- A way is no longer than what is left. -/
theorem best3_len {p : Prg} (hv : Shape p) (o : List Int) : ∀ (n : Nat) (s : St) (π : List Int), Good p s → best3 p o n s = some π → π.length ≤ left4 p s
  | 0, s, π, _, h => by cases h
  | n + 1, s, π, hg, h => by
    unfold best3 at h
    split at h
    · split at h
      · cases h; simp
      · cases h
    · obtain ⟨t, _, ht⟩ := List.exists_of_findSome?_eq_some h
      split at ht
      · rename_i hgo
        obtain ⟨π', h1, rfl⟩ := Option.map_eq_some_iff.1 ht
        have := best3_len hv o n _ _ (hg.do3 hv hgo) h1
        have := left_do3 hg hv hgo
        rw [List.length_cons]
        omega
      · cases ht
/-- Marked states with less left have no way to the outcome. -/
def Sound (p : Prg) (o : List Int) (tb : List (List ByteArray)) (n : Nat) : Prop := ∀ s, G3 p s → left4 p s < n → foundT tb (keyS s) = true → bestS p o s = none
def Grow (p : Prg) (tb tb' : List (List ByteArray)) (n : Nat) : Prop := ∀ t, foundT tb' t = true → foundT tb t = true ∨ ∃ s, G3 p s ∧ left4 p s < n ∧ t = keyS s
theorem Grow.refl (p : Prg) (tb : List (List ByteArray)) (n : Nat) : Grow p tb tb n := fun t h => .inl h
/-- A state is marked, what is behind it is searched without success. -/
theorem Sound.sub {p : Prg} (hv : Shape p) {o : List Int} {tb tb2 : List (List ByteArray)} {n : Nat} {s : St} (h : Sound p o tb n) (hl : tb.length = 4096) (hs : G3 p s) (hn : left4 p s < n) : Sound p o (markT tb (keyS s)) (left4 p s) := by
  intro s' hs' hlt hf
  rcases (found_mark hl _ _).1 hf with hf | he
  · exact h s' hs' (by omega) hf
  · have := hs'.inj hs hv he
    subst this
    omega
theorem Sound.back {p : Prg} (hv : Shape p) {o : List Int} {tb tb2 : List (List ByteArray)} {n : Nat} {s : St} (h : Sound p o tb n) (hl : tb.length = 4096) (hs : G3 p s) (hn : left4 p s < n) (hb : bestS p o s = none)
    (hg : Grow p (markT tb (keyS s)) tb2 (left4 p s)) (h2 : Sound p o tb2 (left4 p s)) : Sound p o tb2 n := by
  intro s' hs' hlt hf
  rcases hg _ hf with hf1 | ⟨s2, h3, h4, h5⟩
  · rcases (found_mark hl _ _).1 hf1 with hf1 | he
    · exact h s' hs' hlt hf1
    · rw [hs'.inj hs hv he]
      exact hb
  · have := hs'.inj h3 hv h5
    subst this
    exact h2 s' hs' h4 hf
theorem Grow.back {p : Prg} {tb0 tb tb2 : List (List ByteArray)} {n : Nat} {s : St} (h : Grow p tb0 tb n) (hl : tb.length = 4096) (hs : G3 p s) (hn : left4 p s < n)
    (hg : Grow p (markT tb (keyS s)) tb2 (left4 p s)) : Grow p tb0 tb2 n := by
  intro t ht
  rcases hg t ht with hf | ⟨s2, h3, h4, h5⟩
  · rcases (found_mark hl _ _).1 hf with hf | he
    · exact h t hf
    · exact .inr ⟨s, hs, hn, he⟩
  · exact .inr ⟨s2, h3, by omega, h5⟩
/-- The state s can be read, and stays so while the blocks of N are left alone. -/
def Kp (w : World) (N : Nat → Prop) (q : Sp) (s : St) : Prop := ∀ w', Keeps (fun b => ¬ N b) w w' → RdS w' q s
theorem Kp.rd {w : World} {N : Nat → Prop} {q : Sp} {s : St} (h : Kp w N q s) : RdS w q s := h w (Keeps.refl _ _)
theorem Kp.step {w w' : World} {N S : Nat → Prop} {q : Sp} {s : St} (h : Kp w N q s) (hk : Keeps S w w') (hs : ∀ b, S b → ¬ N b) : Kp w' N q s := fun w2 h2 => h w2 ((hk.mono hs).trans h2)
theorem Fresh.kp {w : World} {B : Nat} {q : Sp} {s : St} (h : Fresh w B q s) : Kp w (fun b => B ≤ b ∧ b < w.heap.size) q s := fun w' hk =>
  (h.keeps (S := fun b => b < B) ⟨hk.os, hk.tape, hk.output, hk.size, fun k h1 h2 => hk.block k h1 (fun e => e ⟨Nat.not_lt.1 h2, h1⟩)⟩ (fun b h1 (h2 : b < B) => by omega)).rd
/-- A state beside the table. -/
def StA (w : World) (S : Nat → Prop) (q : Sp) (s : St) : Prop := ∃ N, Kp w N q s ∧ ∀ b, N b → b < w.heap.size ∧ ¬ S b
theorem StA.rd {w : World} {S : Nat → Prop} {q : Sp} {s : St} (h : StA w S q s) : RdS w q s := by obtain ⟨N, h1, _⟩ := h; exact h1.rd
theorem StA.below {w w' : World} {S : Nat → Prop} {q : Sp} {s : St} (h : StA w S q s) (hb : Below w.heap.size w w') : StA w' S q s := by
  obtain ⟨N, h1, h2⟩ := h
  exact ⟨N, h1.step (S := fun _ => False) (Keeps.of_below hb) (fun _ e => e.elim), fun b hn => ⟨Nat.lt_of_lt_of_le (h2 b hn).1 hb.size, (h2 b hn).2⟩⟩
theorem StA.change {w w' : World} {S S' : Nat → Prop} {q : Sp} {s : St} (h : StA w S q s) (hk : Keeps S w w') (hS : ∀ b, S' b → S b ∨ w.heap.size ≤ b) : StA w' S' q s := by
  obtain ⟨N, h1, h2⟩ := h
  refine ⟨N, h1.step hk (fun b hb hn => (h2 b hn).2 hb), fun b hn => ⟨Nat.lt_of_lt_of_le (h2 b hn).1 hk.size, fun hs => ?_⟩⟩
  rcases hS b hs with h | h
  · exact (h2 b hn).2 h
  · have := (h2 b hn).1; omega
theorem Fresh.sta {w w' : World} {S : Nat → Prop} {q : Sp} {s : St} (h : Fresh w' w.heap.size q s) (hS : ∀ b, S b → b < w.heap.size) : StA w' S q s :=
  ⟨_, h.kp, fun b hb => ⟨hb.2, fun hs => by have := hS b hs; have := hb.1; omega⟩⟩
end Go.Proofs.Ythlmfjoiicnomaa
