/-
  PROVED HERE: words for slices of slices of numbers that can be read, and that the call owns. CONDITIONS: as each lemma states.
-/
import Derived.Test.YthlmfjoiicnomaaBf
import Derived.Test.YthlmfjoiicnomaaArd
import Derived.Test.YthlmfjoiicnomaaPsh
namespace Go.Proofs.Ythlmfjoiicnomaa
open Go.RowKit
set_option linter.unusedVariables false
set_option linter.unusedSimpArgs false

theorem Try.info_introw : (Try.prog.info? 24).map (fun i => (i.zero, i.size, i.bytes)) = some (some (.slice none 0 0), 1, 24) := by kernel_rfl
def rowsL (rs : List (Option Addr × Nat)) (p : List (List Int)) : List Value := List.zipWith (fun r xs => Value.slice r.1 xs.length r.2) rs p
theorem length_rowsL {rs : List (Option Addr × Nat)} {p : List (List Int)} (h : rs.length = p.length) : (rowsL rs p).length = p.length := by simp [rowsL, h]
theorem rowsL_get {rs : List (Option Addr × Nat)} {p : List (List Int)} {k : Nat} {r : Option Addr × Nat} {xs : List Int} (h1 : rs[k]? = some r) (h2 : p[k]? = some xs) : (rowsL rs p)[k]? = some (.slice r.1 xs.length r.2) := by
  simp [rowsL, List.getElem?_zipWith, h1, h2]

def RdL (w : World) (a : Option Addr) (p : List (List Int)) : Prop :=
  ∃ rs : List (Option Addr × Nat), rs.length = p.length ∧ Rd w a (rowsL rs p) ∧ ∀ (k : Nat) r xs, rs[k]? = some r → p[k]? = some xs → Rd w r.1 (ints xs) ∧ xs.length ≤ r.2
theorem RdL.at' {w : World} {a : Option Addr} {p : List (List Int)} (h : RdL w a p) (k : Nat) (hk : k < p.length) :
    ∃ b off r c xs, a = some ⟨b, off, none⟩ ∧ b < w.heap.size ∧ p[k]? = some xs ∧ w.cell? ⟨b, off + k, none⟩ = some (.slice r xs.length c) ∧ Rd w r (ints xs) ∧ xs.length ≤ c := by
  obtain ⟨rs, hl, ho, hi⟩ := h
  obtain ⟨b, off, h1, h2, h3⟩ := ho.at k (by rw [length_rowsL hl]; exact hk)
  have e1 : rs[k]? = some rs[k] := List.getElem?_eq_getElem (by omega)
  have e2 : p[k]? = some p[k] := List.getElem?_eq_getElem hk
  have e3 := rowsL_get e1 e2
  rw [List.getElem?_eq_getElem (by rw [length_rowsL hl]; exact hk)] at e3
  simp only [Option.some.injEq] at e3
  rw [e3] at h3
  exact ⟨b, off, _, _, _, h1, h2, e2, h3, hi k _ _ e1 e2⟩
theorem RdL.below {w w' : World} {a : Option Addr} {p : List (List Int)} (h : RdL w a p) (hb : Below w.heap.size w w') : RdL w' a p := by
  obtain ⟨rs, hl, ho, hi⟩ := h
  exact ⟨rs, hl, ho.below hb, fun k r xs h1 h2 => ⟨(hi k r xs h1 h2).1.below hb, (hi k r xs h1 h2).2⟩⟩

def OwL (w : World) (base top : Nat) (a : Option Addr) (cap : Nat) (p : List (List Int)) : Prop :=
  ∃ rs : List (Option Addr × Nat), rs.length = p.length ∧ w.ownsRow base 24 1 (.slice a p.length cap) p.length (rowsL rs p) ∧ (∀ (k : Nat) r xs, rs[k]? = some r → p[k]? = some xs → OwI w base r.1 r.2 xs) ∧
    (∀ (i k : Nat) r s b, rs[i]? = some r → rs[k]? = some s → blk r.1 = some b → blk s.1 = some b → i = k) ∧ (∀ (k : Nat) r b, rs[k]? = some r → blk r.1 = some b → b < top) ∧ ∀ b, blk a = some b → b < top
theorem OwL.rd {w : World} {base top cap : Nat} {a : Option Addr} {p : List (List Int)} (h : OwL w base top a cap p) : RdL w a p := by
  obtain ⟨rs, hl, ho, hi, _⟩ := h
  exact ⟨rs, hl, Rd.own ho, fun k r xs h1 h2 => ⟨Rd.own (hi k r xs h1 h2), own_cap (hi k r xs h1 h2)⟩⟩
theorem OwL.below {w w' : World} {base top cap : Nat} {a : Option Addr} {p : List (List Int)} (h : OwL w base top a cap p) (hb : Below w.heap.size w w') : OwL w' base top a cap p := by
  obtain ⟨rs, hl, ho, hi, hd⟩ := h
  exact ⟨rs, hl, own_below ho hb, fun k r xs h1 h2 => own_below (hi k r xs h1 h2) hb, hd⟩
theorem OwL.keeps {S : Nat → Prop} {w w' : World} {base top cap : Nat} {a : Option Addr} {p : List (List Int)} (h : OwL w base top a cap p) (hk : Keeps S w w') (hne : ∀ b, base ≤ b → b < top → ¬ S b) : OwL w' base top a cap p := by
  obtain ⟨rs, hl, ho, hi, hd, ht, ht'⟩ := h
  refine ⟨rs, hl, own_keeps ho hk fun b hb => hne b (own_blk ho b hb).1 (ht' b hb), fun k r xs h1 h2 => own_keeps (hi k r xs h1 h2) hk fun b hb => hne b (own_blk (hi k r xs h1 h2) b hb).1 (ht k r b h1 hb), hd, ht, ht'⟩

theorem OwL.grown {w w' : World} {base top cap : Nat} {a : Option Addr} {p : List (List Int)} {row : Option Nat} (h : OwL w base top a cap p) (hg : w.grownBy w' row) (hr : ∀ k, row = some k → top ≤ k) : OwL w' base top a cap p :=
  h.keeps (S := fun k => row = some k) (Keeps.of_grown hg fun k hk => hk) fun b _ hb he => by have := hr b he; omega
theorem OwL.up {w : World} {base top top' cap : Nat} {a : Option Addr} {p : List (List Int)} (h : OwL w base top a cap p) (ht : top ≤ top') : OwL w base top' a cap p := by
  obtain ⟨rs, hl, ho, hi, hd, h1, h2⟩ := h
  exact ⟨rs, hl, ho, hi, hd, fun k r b hr hb => Nat.lt_of_lt_of_le (h1 k r b hr hb) ht, fun b hb => Nat.lt_of_lt_of_le (h2 b hb) ht⟩
theorem OwL.down {w : World} {base base' top cap : Nat} {a : Option Addr} {p : List (List Int)} (h : OwL w base' top a cap p) (hb : base ≤ base') : OwL w base top a cap p := by
  obtain ⟨rs, hl, ho, hi, r⟩ := h
  exact ⟨rs, hl, own_base ho hb, fun k r xs h1 h2 => own_base (hi k r xs h1 h2) hb, r⟩
theorem OwL.push {w w' : World} {base top cap : Nat} {b : Option Addr} {p : List (List Int)} {rs : List (Option Addr × Nat)} (hl : rs.length = p.length) (ho : w.ownsRow base 24 1 (.slice b p.length cap) p.length (rowsL rs p))
    (hi : ∀ (k : Nat) r xs, rs[k]? = some r → p[k]? = some xs → OwI w base r.1 r.2 xs) (hd : ∀ (i k : Nat) r s b, rs[i]? = some r → rs[k]? = some s → blk r.1 = some b → blk s.1 = some b → i = k) (h1 : ∀ (k : Nat) r b, rs[k]? = some r → blk r.1 = some b → b < top)
    {r : Option Addr × Nat} {ys : List Int} (hr : OwI w base r.1 r.2 ys) (hrt : ∀ k, blk r.1 = some k → top ≤ k) {a' : Option Addr} {cap' : Nat} (hown : w'.ownsRow base 24 1 (.slice a' (p.length + 1) cap') (p.length + 1) (rowsL rs p ++ [.slice r.1 ys.length r.2])) (hg : w.grownBy w' (blk b)) :
    OwL w' base w'.heap.size a' cap' (p ++ [ys]) := by
  have hget : ∀ (k : Nat) s xs, (rs ++ [r])[k]? = some s → (p ++ [ys])[k]? = some xs → (k < rs.length ∧ rs[k]? = some s ∧ p[k]? = some xs) ∨ (k = rs.length ∧ s = r ∧ xs = ys) := by
    intro k s xs hs hx
    by_cases hk : k < rs.length
    · rw [List.getElem?_append_left hk] at hs
      rw [List.getElem?_append_left (by omega)] at hx
      exact .inl ⟨hk, hs, hx⟩
    · have hk2 := (List.getElem?_eq_some_iff.1 hs).1
      simp only [List.length_append, List.length_singleton] at hk2
      have e : k = rs.length := by omega
      subst e
      rw [List.getElem?_append_right (by omega), Nat.sub_self] at hs
      rw [hl, List.getElem?_append_right (by omega), Nat.sub_self] at hx
      simp only [List.getElem?_cons_zero, Option.some.injEq] at hs hx
      exact .inr ⟨rfl, hs.symm, hx.symm⟩
  have hsz : (rs ++ [r]).length = (p ++ [ys]).length := by simp [hl]
  have keep : ∀ (s : Option Addr × Nat) xs, OwI w base s.1 s.2 xs → OwI w' base s.1 s.2 xs := fun s xs hs => own_other hs ho (by decide) hg
  refine ⟨rs ++ [r], hsz, ?_, ?_, ?_, ?_, ?_⟩
  · have e : rowsL (rs ++ [r]) (p ++ [ys]) = rowsL rs p ++ [.slice r.1 ys.length r.2] := by
      unfold rowsL
      rw [List.zipWith_append hl]
      rfl
    rw [e]
    simpa using hown
  · intro k s xs hs hx
    rcases hget k s xs hs hx with ⟨_, h2, h3⟩ | ⟨_, rfl, rfl⟩
    · exact keep s xs (hi k s xs h2 h3)
    · exact keep _ _ hr
  · intro i k s t c hs ht hbs hbt
    have g := fun (j : Nat) (u : Option Addr × Nat) (hu : (rs ++ [r])[j]? = some u) => hget j u _ hu (List.getElem?_eq_getElem (by rw [← hsz]; exact (List.getElem?_eq_some_iff.1 hu).1))
    rcases g i s hs with ⟨_, h2, _⟩ | ⟨e1, rfl, _⟩ <;> rcases g k t ht with ⟨_, h3, _⟩ | ⟨e2, rfl, _⟩
    · exact hd i k s t c h2 h3 hbs hbt
    · have := h1 i s c h2 hbs
      have := hrt c hbt
      omega
    · have := h1 k t c h3 hbt
      have := hrt c hbs
      omega
    · omega
  · intro k s c hs hc
    rcases hget k s _ hs (List.getElem?_eq_getElem (by rw [← hsz]; exact (List.getElem?_eq_some_iff.1 hs).1)) with ⟨hk, h2, _⟩ | ⟨_, rfl, _⟩
    · have := (own_blk (hi k s _ h2 (List.getElem?_eq_getElem (by omega))) c hc).2
      have := hg.size
      omega
    · have := (own_blk hr c hc).2
      have := hg.size
      omega
  · intro c hc
    exact (own_blk hown c hc).2
theorem rowsL_set {rs : List (Option Addr × Nat)} {p : List (List Int)} (hl : rs.length = p.length) (i : Nat) (r : Option Addr × Nat) (ys : List Int) : (rowsL rs p).set i (.slice r.1 ys.length r.2) = rowsL (rs.set i r) (p.set i ys) := by
  apply List.ext_getElem?
  intro j
  unfold rowsL
  rw [List.getElem?_set]
  by_cases hij : i = j
  · subst hij
    by_cases hi : i < p.length
    · simp [hi, hl]
    · simp [hi, hl]
  · rw [if_neg hij]
    simp only [List.getElem?_zipWith, List.getElem?_set, if_neg hij]
theorem OwL.row {w : World} {base top cap : Nat} {a : Option Addr} {p : List (List Int)} (h : OwL w base top a cap p) {i : Nat} {xs : List Int} (hx : p[i]? = some xs) :
    ∃ g r c, a = some ⟨g, 0, none⟩ ∧ base ≤ g ∧ g < top ∧ w.cell? ⟨g, i, none⟩ = some (.slice r xs.length c) ∧ OwI w base r c xs ∧ (∀ b, blk r = some b → b < top ∧ b ≠ g) ∧
      ∀ (S : Nat → Prop) (w' : World) (v' : Value) (ys : List Int), Keeps S w w' → (∀ b, base ≤ b → b < top → S b → blk r = some b) → w'.ownsRow base 3 1 v' ys.length (ints ys) → (v'.ownBlock = blk r ∨ ∀ b, v'.ownBlock = some b → top ≤ b) →
        w'.cell? ⟨g, i, none⟩ = some (.slice r xs.length c) ∧ w'.frozen? ⟨g, i, none⟩ = false ∧ OwL (w'.setCell ⟨g, i, none⟩ v') base w'.heap.size a cap (p.set i ys) := by
  obtain ⟨rs, hl, ho, hi, hd, h1, h2⟩ := h
  have hip := (List.getElem?_eq_some_iff.1 hx).1
  obtain ⟨g, rfl, hgb, hgs⟩ := own_some ho (by omega)
  obtain ⟨r, hr⟩ : ∃ r, rs[i]? = some r := ⟨_, List.getElem?_eq_getElem (by omega)⟩
  have hrow := hi i r xs hr hx
  have hgt := h2 g rfl
  have hne : ∀ (k : Nat) s ys, rs[k]? = some s → p[k]? = some ys → ∀ b, blk s.1 = some b → b ≠ g := fun k s ys hs hy b hb e => own_apart (hi k s ys hs hy) ho (by decide) b hb (by rw [e]; rfl)
  have hcell : w.cell? ⟨g, i, none⟩ = some (.slice r.1 xs.length r.2) := (ho.cellAt i (by omega)).trans (rowsL_get hr hx)
  refine ⟨g, r.1, r.2, rfl, hgb, hgt, hcell, hrow, fun b hb => ⟨h1 i r b hr hb, hne i r xs hr hx b hb⟩, ?_⟩
  intro S w' v' ys hk hS hown hblk
  have hSg : ¬ S g := fun hs => hne i r xs hr hx g (hS g hgb hgt hs) rfl
  have ho' := own_keeps ho hk (fun b hb => by cases hb; exact hSg)
  obtain ⟨a', c', rfl, hab⟩ := own_shape hown
  have hag : ∀ b, blk a' = some b → b ≠ g := fun b hb e => by
    rw [ownBlock_slice] at hblk
    rcases hblk with hq | hq
    · exact hne i r xs hr hx b (by rw [← hq]; exact hb) e
    · have := hq b hb; omega
  have kset : Keeps (· = g) w' (w'.setCell ⟨g, i, none⟩ (.slice a' ys.length c')) := Keeps.setCell w' ⟨g, i, none⟩ _
  have hget : ∀ (k : Nat) s zs, (rs.set i (a', c'))[k]? = some s → (p.set i ys)[k]? = some zs → (k = i ∧ s = (a', c') ∧ zs = ys) ∨ (k ≠ i ∧ rs[k]? = some s ∧ p[k]? = some zs) := by
    intro k s zs hs hz
    by_cases hki : i = k
    · subst hki
      rw [List.getElem?_set_self (by omega)] at hs
      rw [List.getElem?_set_self hip] at hz
      cases hs; cases hz
      exact .inl ⟨rfl, rfl, rfl⟩
    · rw [List.getElem?_set_ne hki] at hs
      rw [List.getElem?_set_ne hki] at hz
      exact .inr ⟨fun e => hki e.symm, hs, hz⟩
  have hlen : (rs.set i (a', c')).length = (p.set i ys).length := by simp [hl]
  have get1 : ∀ (k : Nat) s, (rs.set i (a', c'))[k]? = some s → (k = i ∧ s = (a', c')) ∨ (k ≠ i ∧ rs[k]? = some s) := fun k s hs => by
    rcases hget k s _ hs (List.getElem?_eq_getElem (by rw [← hlen]; exact (List.getElem?_eq_some_iff.1 hs).1)) with ⟨q1, q2, _⟩ | ⟨q1, q2, _⟩
    · exact .inl ⟨q1, q2⟩
    · exact .inr ⟨q1, q2⟩
  have new : ∀ (k : Nat) s b, k ≠ i → rs[k]? = some s → blk s.1 = some b → blk a' = some b → False := fun k s b hki hs hb hb' => by
    rw [ownBlock_slice] at hblk
    rcases hblk with hq | hq
    · exact hki (hd k i s r b hs hr hb (by rw [← hq]; exact hb'))
    · have := hq b hb'
      have := h1 k s b hs hb
      omega
  refine ⟨(ho'.cellAt i (by omega)).trans (rowsL_get hr hx), ho'.frozenAt i, rs.set i (a', c'), hlen, ?_, ?_, ?_, ?_, ?_⟩
  · have := (ho'.stored i (.slice a' ys.length c')).1
    rw [rowsL_set hl i (a', c') ys] at this
    simpa using this
  · intro k s zs hs hz
    rcases hget k s zs hs hz with ⟨_, rfl, rfl⟩ | ⟨hki, q2, q3⟩
    · exact own_keeps hown kset fun b hb e => hag b hb e
    · have hr' := hi k s zs q2 q3
      refine own_keeps (own_keeps hr' hk fun b hb hs' => ?_) kset fun b hb e => hne k s zs q2 q3 b hb e
      exact hki (hd k i s r b q2 hr hb (hS b (own_blk hr' b hb).1 (h1 k s b q2 hb) hs'))
  · intro j k s t b hs ht hbs hbt
    rcases get1 j s hs with ⟨q1, rfl⟩ | ⟨q1, q2⟩ <;> rcases get1 k t ht with ⟨q3, rfl⟩ | ⟨q3, q4⟩
    · omega
    · exact absurd hbs (fun hb => new k t b q3 q4 hbt hb)
    · exact absurd hbt (fun hb => new j s b q1 q2 hbs hb)
    · exact hd j k s t b q2 q4 hbs hbt
  · intro k s b hs hb
    rcases get1 k s hs with ⟨_, rfl⟩ | ⟨_, q2⟩
    · exact (hab b hb).2
    · have := (own_blk (hi k s _ q2 (List.getElem?_eq_getElem (by have := (List.getElem?_eq_some_iff.1 q2).1; omega))) b hb).2
      have := hk.size
      omega
  · intro b hb
    have := hk.size
    have := h2 b hb
    simp only [blk, Option.some.injEq] at hb
    omega

/-- Append of a row to a slice of rows. -/
theorem run_push {w : World} {base top : Nat} {b : Option Addr} {cap : Nat} {p : List (List Int)} (ty : TypeId) (hP : OwL w base top b cap p) (r : Option Addr × Nat) (ys : List Int) (hr : OwI w base r.1 r.2 ys) (hrt : ∀ k, blk r.1 = some k → top ≤ k)
    (ad : Addr) (hu : w.cell? ad = some (.slice r.1 ys.length r.2)) (hn : p.length + 1 ≤ 3000000) (hbase : base ≤ w.heap.size) :
    ∃ a' cap' w', (Builtin.append_ #[56, 56] ty #[.slice b p.length cap, .slice (some ad) 1 1]).run Try.prog w = .ok (.slice a' (p.length + 1) cap') w' ∧ OwL w' base w'.heap.size a' cap' (p ++ [ys]) ∧ w.grownBy w' (blk b) := by
  obtain ⟨rs, hl, hO, hi, hd, h1, h2⟩ := hP
  obtain ⟨i, g2, gz, g3, g4⟩ := info_parts Try.info_introw
  obtain ⟨v', w', hrun, q1, q2, _, q3⟩ := run_append_own_at (P := Try.prog) w base 56 ty 24 i _ 1 24 Try.underlying56 g2 gz g3 g4 rfl (by omega) (.slice b p.length cap) p.length (rowsL rs p) hO ad 1 1 [.slice r.1 ys.length r.2] rfl (fun j u hj => by
    match j, hj with
    | 0, hj => simp at hj; subst hj; simpa [Addr.add] using hu) (by simp [Value.oneCell']) (by unfold maxLen; omega) (by omega) hbase
  obtain ⟨a', cap', rfl, _⟩ := own_shape q1
  rw [ownBlock_slice] at q2
  exact ⟨a', cap', w', hrun, OwL.push hl hO hi hd h1 hr hrt q1 q2, q2⟩
theorem wpList_pushI {ops : Array Oper} {Q : Exit → Act → World → Prop} {a : Act} {w : World} {o : Oper} {rest : List Oper} (hgd : o.guard = none) (s x : Operand)
    (ho : o.op = .call { callee := .builtin .append, args := #[s, x], argTypes := #[56, 56] })
    (base top : Nat) (b : Option Addr) (n cap : Nat) (p : List (List Int)) (hpn : p.length = n) (hs : a.eval s = .slice b n cap) (hP : OwL w base top b cap p) (r : Option Addr) (c m : Nat) (ys : List Int) (hm : ys.length = m) (hr : w.ownsRow base 3 1 (.slice r m c) m (ints ys)) (hrt : ∀ k, blk r = some k → top ≤ k)
    (ad : Addr) (hx : a.eval x = .slice (some ad) 1 1) (hu : w.cell? ad = some (.slice r m c)) (hn : n + 1 ≤ 3000000) (hbase : base ≤ w.heap.size)
    (h : ∀ a' cap' w', OwL w' base w'.heap.size a' cap' (p ++ [ys]) → w.grownBy w' (blk b) → wpList Try.prog ops Q rest (a.put o.dst (.slice a' (n + 1) cap')) w') : wpList Try.prog ops Q (o :: rest) a w := by
  subst hpn
  subst hm
  refine wpList_plain hgd fun K hK => ?_
  obtain ⟨a', cap', w', hrun, q1, q2⟩ := run_push o.type hP (r, c) ys hr hrt ad hu hn hbase
  unfold Oper.wp execOp
  simp only [ho, resolve, invoke, builtin, Sem.run_bind, Sem.run_pure, Result.andThen_ok, List.map_toArray, List.map_cons, List.map_nil, hs, hx, hrun]
  exact hK _ _ (h a' cap' w' q1 q2)
theorem OwL.nil (w : World) (base top : Nat) : OwL w base top none 0 [] :=
  ⟨[], rfl, own_none w base _ 1, fun k r xs h => by simp at h, fun i k r s b h => by simp at h, fun k r b h => by simp at h, fun b hb => by simp [blk] at hb⟩
theorem OwL.cap {w : World} {base top cap : Nat} {a : Option Addr} {p : List (List Int)} (h : OwL w base top a cap p) : p.length ≤ cap := by
  obtain ⟨rs, hl, ho, _⟩ := h
  exact own_cap ho

/-- The cells of what is buffered: location, value, location, value. -/
def flatB (b : List (Int × Int)) : List Int := b.flatMap fun e => [e.1, e.2]
theorem length_flatB (b : List (Int × Int)) : (flatB b).length = b.length * 2 := by
  induction b with
  | nil => rfl
  | cons e b ih =>
    have : flatB (e :: b) = e.1 :: e.2 :: flatB b := rfl
    rw [this]; simp; omega
theorem flatB_append (a b : List (Int × Int)) : flatB (a ++ b) = flatB a ++ flatB b := by simp [flatB]
theorem flatB_get : ∀ (b : List (Int × Int)) (i : Nat) (e : Int × Int), b[i]? = some e → (flatB b)[i * 2]? = some e.1 ∧ (flatB b)[i * 2 + 1]? = some e.2
  | [], i, e, h => by simp at h
  | x :: b, 0, e, h => by
    simp only [List.getElem?_cons_zero, Option.some.injEq] at h
    subst h
    exact ⟨rfl, rfl⟩
  | x :: b, i + 1, e, h => by
    have := flatB_get b i e (by simpa using h)
    have e1 : flatB (x :: b) = x.1 :: x.2 :: flatB b := rfl
    rw [e1, show (i + 1) * 2 = i * 2 + 2 by omega]
    simpa using this

/-- Where the parts of a state lie. -/
structure Sp where
  a0 : Option Addr
  c0 : Nat
  a1 : Option Addr
  c1 : Nat
  a2 : Option Addr
  c2 : Nat
  a3 : Option Addr
  c3 : Nat
abbrev Sp.v (q : Sp) (s : St) : Value := .agg #[.slice q.a0 s.pc.length q.c0, .slice q.a1 s.regs.length q.c1, .slice q.a2 s.mem.length q.c2, .slice q.a3 s.buf.length q.c3]
/-- The state s can be read. -/
structure RdS (w : World) (q : Sp) (s : St) : Prop where
  pc : Rd w q.a0 (ints s.pc)
  regs : Rd w q.a1 (ints s.regs)
  mem : Rd w q.a2 (ints s.mem)
  buf : RdL w q.a3 (s.buf.map flatB)
theorem RdS.below {w w' : World} {q : Sp} {s : St} (h : RdS w q s) (hb : Below w.heap.size w w') : RdS w' q s :=
  ⟨h.pc.below hb, h.regs.below hb, h.mem.below hb, h.buf.below hb⟩
/-- The same, in blocks from B on. -/
structure Fresh (w : World) (B : Nat) (q : Sp) (s : St) : Prop where
  pc : Rd w q.a0 (ints s.pc) ∧ ∀ b, blk q.a0 = some b → B ≤ b
  regs : Rd w q.a1 (ints s.regs) ∧ ∀ b, blk q.a1 = some b → B ≤ b
  mem : Rd w q.a2 (ints s.mem) ∧ ∀ b, blk q.a2 = some b → B ≤ b
  buf : ∃ rs : List (Option Addr × Nat), rs.length = (s.buf.map flatB).length ∧ Rd w q.a3 (rowsL rs (s.buf.map flatB)) ∧ (∀ b, blk q.a3 = some b → B ≤ b) ∧ ∀ (k : Nat) r xs, rs[k]? = some r → (s.buf.map flatB)[k]? = some xs → (Rd w r.1 (ints xs) ∧ xs.length ≤ r.2) ∧ ∀ b, blk r.1 = some b → B ≤ b
theorem Fresh.rd {w : World} {B : Nat} {q : Sp} {s : St} (h : Fresh w B q s) : RdS w q s := by
  obtain ⟨rs, h1, h2, _, h3⟩ := h.buf
  exact ⟨h.pc.1, h.regs.1, h.mem.1, rs, h1, h2, fun k r xs e1 e2 => (h3 k r xs e1 e2).1⟩
theorem Fresh.keeps {S : Nat → Prop} {w w' : World} {B : Nat} {q : Sp} {s : St} (h : Fresh w B q s) (hk : Keeps S w w') (hS : ∀ b, B ≤ b → ¬ S b) : Fresh w' B q s := by
  obtain ⟨rs, h1, h2, h3, h4⟩ := h.buf
  exact ⟨⟨h.pc.1.keeps hk fun b hb => hS b (h.pc.2 b hb), h.pc.2⟩, ⟨h.regs.1.keeps hk fun b hb => hS b (h.regs.2 b hb), h.regs.2⟩, ⟨h.mem.1.keeps hk fun b hb => hS b (h.mem.2 b hb), h.mem.2⟩,
    rs, h1, h2.keeps hk (fun b hb => hS b (h3 b hb)), h3, fun k r xs e1 e2 => ⟨⟨(h4 k r xs e1 e2).1.1.keeps hk fun b hb => hS b ((h4 k r xs e1 e2).2 b hb), (h4 k r xs e1 e2).1.2⟩, (h4 k r xs e1 e2).2⟩⟩
theorem Fresh.down {w : World} {B B' : Nat} {q : Sp} {s : St} (h : Fresh w B q s) (hb : B' ≤ B) : Fresh w B' q s := by
  obtain ⟨rs, h1, h2, h3, h4⟩ := h.buf
  exact ⟨⟨h.pc.1, fun b e => Nat.le_trans hb (h.pc.2 b e)⟩, ⟨h.regs.1, fun b e => Nat.le_trans hb (h.regs.2 b e)⟩, ⟨h.mem.1, fun b e => Nat.le_trans hb (h.mem.2 b e)⟩, rs, h1, h2, fun b e => Nat.le_trans hb (h3 b e), fun k r xs e1 e2 => ⟨(h4 k r xs e1 e2).1, fun b e => Nat.le_trans hb ((h4 k r xs e1 e2).2 b e)⟩⟩
/-- The call owns the state s, each part by itself. -/
structure OwS (w : World) (base : Nat) (q : Sp) (s : St) : Prop where
  pc : OwI w base q.a0 q.c0 s.pc
  regs : OwI w base q.a1 q.c1 s.regs
  mem : OwI w base q.a2 q.c2 s.mem
  d01 : ∀ b, blk q.a0 = some b → blk q.a1 ≠ some b
  d02 : ∀ b, blk q.a0 = some b → blk q.a2 ≠ some b
  d12 : ∀ b, blk q.a1 = some b → blk q.a2 ≠ some b
  buf : ∃ top, base ≤ top ∧ (∀ b, blk q.a0 = some b → b < top) ∧ (∀ b, blk q.a1 = some b → b < top) ∧ (∀ b, blk q.a2 = some b → b < top) ∧ OwL w top w.heap.size q.a3 q.c3 (s.buf.map flatB)
theorem OwS.fresh {w : World} {base : Nat} {q : Sp} {s : St} (h : OwS w base q s) : Fresh w base q s := by
  obtain ⟨top, ht, _, _, _, rs, hl, ho, hi, _⟩ := h.buf
  exact ⟨⟨Rd.own h.pc, fun b hb => (own_blk h.pc b hb).1⟩, ⟨Rd.own h.regs, fun b hb => (own_blk h.regs b hb).1⟩, ⟨Rd.own h.mem, fun b hb => (own_blk h.mem b hb).1⟩,
    rs, hl, Rd.own ho, fun b hb => Nat.le_trans ht (own_blk ho b hb).1, fun k r xs h1 h2 => ⟨⟨Rd.own (hi k r xs h1 h2), own_cap (hi k r xs h1 h2)⟩, fun b hb => Nat.le_trans ht (own_blk (hi k r xs h1 h2) b hb).1⟩⟩
theorem OwS.rd {w : World} {base : Nat} {q : Sp} {s : St} (h : OwS w base q s) : RdS w q s := by
  obtain ⟨top, _, _, _, _, hb⟩ := h.buf
  exact ⟨Rd.own h.pc, Rd.own h.regs, Rd.own h.mem, hb.rd⟩
end Go.Proofs.Ythlmfjoiicnomaa
