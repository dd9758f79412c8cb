/-
  PROVED HERE: plain facts on states with store buffers: what a state owes to what its threads have read, and which writes have left; that such states are few. CONDITIONS: as each lemma states.
-/
import Derived.Test.YtbncmeggnhggkaaSea
namespace Go.Proofs.Ytbncmeggnhggkaa
open Go.RowKit
set_option linter.unusedVariables false
set_option linter.unusedSimpArgs false

/-- A thread's history, played: its registers, and the writes that wait. -/
def play : List Int → List (Ins × Int) → List Int × List (Int × Int)
  | r, [] => (r, [])
  | r, (x, d) :: l =>
    if insReads x then play (r.set x.reg.toNat d) l
    else if x.op = 2 ∨ x.op = 3 then
      ((play r l).1, if d = 0 then (x.loc, if x.op = 3 then r.getD x.reg.toNat 0 else x.val) :: (play r l).2 else (play r l).2)
    else play r l
theorem play_read {r : List Int} {x : Ins} {d : Int} {l : List (Ins × Int)} (h : insReads x = true) : play r ((x, d) :: l) = play (r.set x.reg.toNat d) l := by
  rw [play, if_pos h]
theorem play_write {r : List Int} {x : Ins} {d : Int} {l : List (Ins × Int)} (h : insReads x = false) (h2 : x.op = 2 ∨ x.op = 3) : play r ((x, d) :: l) = ((play r l).1, if d = 0 then (x.loc, if x.op = 3 then r.getD x.reg.toNat 0 else x.val) :: (play r l).2 else (play r l).2) := by
  rw [play, if_neg (by rw [h]; decide), if_pos h2]
theorem play_other {r : List Int} {x : Ins} {d : Int} {l : List (Ins × Int)} (h : insReads x = false) (h2 : ¬ (x.op = 2 ∨ x.op = 3)) : play r ((x, d) :: l) = play r l := by
  rw [play, if_neg (by rw [h]; decide), if_neg h2]
theorem play_len : ∀ (l : List (Ins × Int)) (r : List Int), (play r l).1.length = r.length
  | [], r => rfl
  | (x, d) :: l, r => by
    cases h : insReads x with
    | true => rw [play_read h, play_len l]; simp
    | false =>
      by_cases h2 : x.op = 2 ∨ x.op = 3
      · rw [play_write h h2]; exact play_len l r
      · rw [play_other h h2]; exact play_len l r
theorem play_snoc_read : ∀ (l : List (Ins × Int)) (r : List Int) (x : Ins) (d : Int), insReads x = true → play r (l ++ [(x, d)]) = ((play r l).1.set x.reg.toNat d, (play r l).2)
  | [], r, x, d, h => by rw [List.nil_append, play_read h]; rfl
  | (y, e) :: l, r, x, d, h => by
    rw [List.cons_append]
    cases hy : insReads y with
    | true => rw [play_read hy, play_read hy, play_snoc_read l _ x d h]
    | false =>
      by_cases h2 : y.op = 2 ∨ y.op = 3
      · rw [play_write hy h2, play_write hy h2, play_snoc_read l _ x d h]
      · rw [play_other hy h2, play_other hy h2, play_snoc_read l _ x d h]
theorem play_snoc_other : ∀ (l : List (Ins × Int)) (r : List Int) (x : Ins) (d : Int), insReads x = false → ¬ (x.op = 2 ∨ x.op = 3) → play r (l ++ [(x, d)]) = play r l
  | [], r, x, d, h, h3 => by rw [List.nil_append, play_other h h3]
  | (y, e) :: l, r, x, d, h, h3 => by
    rw [List.cons_append]
    cases hy : insReads y with
    | true => rw [play_read hy, play_read hy, play_snoc_other l _ x d h h3]
    | false =>
      by_cases h2 : y.op = 2 ∨ y.op = 3
      · rw [play_write hy h2, play_write hy h2, play_snoc_other l _ x d h h3]
      · rw [play_other hy h2, play_other hy h2, play_snoc_other l _ x d h h3]
theorem play_snoc_write : ∀ (l : List (Ins × Int)) (r : List Int) (x : Ins), insReads x = false → (x.op = 2 ∨ x.op = 3) → play r (l ++ [(x, 0)]) = ((play r l).1, (play r l).2 ++ [(x.loc, if x.op = 3 then (play r l).1.getD x.reg.toNat 0 else x.val)])
  | [], r, x, h, h3 => by rw [List.nil_append, play_write h h3]; rfl
  | (y, e) :: l, r, x, h, h3 => by
    rw [List.cons_append]
    cases hy : insReads y with
    | true => rw [play_read hy, play_read hy, play_snoc_write l _ x h h3]
    | false =>
      by_cases h2 : y.op = 2 ∨ y.op = 3
      · rw [play_write hy h2, play_write hy h2, play_snoc_write l _ x h h3]
        by_cases he : e = 0
        · rw [if_pos he, if_pos he, List.cons_append]
        · rw [if_neg he, if_neg he]
      · rw [play_other hy h2, play_other hy h2, play_snoc_write l _ x h h3]
/-- A write leaves: its digit is one. -/
theorem play_flush (f : Int × Int → Bool) : ∀ (xs : List Ins) (ds : List Int) (r : List Int) (e : Int × Int) (rest : List (Int × Int)), (play r (xs.zip ds)).2.filter f = e :: rest →
    ∃ ds' : List Int, ds'.length = ds.length ∧ (∀ (k : Nat) d, ds'[k]? = some d → ds[k]? = some d ∨ (d = 1 ∧ ∀ x, xs[k]? = some x → x.op ≠ 4)) ∧ (play r (xs.zip ds')).1 = (play r (xs.zip ds)).1 ∧ (play r (xs.zip ds')).2.filter f = rest ∧
      ∀ g : Int × Int → Bool, (∀ e, f e = true → g e = false) → (play r (xs.zip ds')).2.filter g = (play r (xs.zip ds)).2.filter g
  | [], ds, r, e, rest, h => by simp [play] at h
  | x :: xs, [], r, e, rest, h => by simp [play] at h
  | x :: xs, d :: ds, r, e, rest, h => by
    rw [List.zip_cons_cons] at h
    have keep : ∀ ds' : List Int, (∀ (k : Nat) d, ds'[k]? = some d → ds[k]? = some d ∨ (d = 1 ∧ ∀ x, xs[k]? = some x → x.op ≠ 4)) → ∀ (k : Nat) d', (d :: ds')[k]? = some d' → (d :: ds)[k]? = some d' ∨ (d' = 1 ∧ ∀ y, (x :: xs)[k]? = some y → y.op ≠ 4) := by
      intro ds' hd k d' hk
      cases k with
      | zero => exact .inl (by simpa using hk)
      | succ k => exact (hd k d' (by simpa using hk)).imp (fun e => by simpa using e) (fun e => ⟨e.1, fun y hy => e.2 y (by simpa using hy)⟩)
    cases hx : insReads x with
    | true =>
      rw [play_read hx] at h
      obtain ⟨ds', h1, h2, h3, h4, h5⟩ := play_flush f xs ds _ e rest h
      refine ⟨d :: ds', by simp [h1], keep ds' h2, ?_, ?_, fun g hg => ?_⟩
      · rw [List.zip_cons_cons, List.zip_cons_cons, play_read hx, play_read hx, h3]
      · rw [List.zip_cons_cons, play_read hx, h4]
      · rw [List.zip_cons_cons, List.zip_cons_cons, play_read hx, play_read hx, h5 g hg]
    | false =>
      by_cases hw : x.op = 2 ∨ x.op = 3
      · rw [play_write hx hw] at h
        by_cases hd : d = 0
        · subst hd
          simp only [if_true] at h
          obtain ⟨c, hc⟩ : ∃ c, c = (x.loc, if x.op = 3 then r.getD x.reg.toNat 0 else x.val) := ⟨_, rfl⟩
          rw [← hc] at h
          cases hf : f c with
          | true =>
            rw [List.filter_cons_of_pos hf] at h
            obtain ⟨h1, h2⟩ := List.cons.inj h
            refine ⟨1 :: ds, by simp, fun k d' hk => ?_, ?_, ?_, fun g hg => ?_⟩
            · cases k with
              | zero => exact .inr ⟨by simpa using hk.symm, fun y hy => by
                  simp at hy; subst hy; omega⟩
              | succ k => exact .inl (by simpa using hk)
            · rw [List.zip_cons_cons, List.zip_cons_cons, play_write hx hw, play_write hx hw]
            · rw [List.zip_cons_cons, play_write hx hw, if_neg (by decide), h2]
            · rw [List.zip_cons_cons, List.zip_cons_cons, play_write hx hw, play_write hx hw, if_neg (by decide), if_pos rfl, ← hc, List.filter_cons_of_neg (by rw [hg c hf]; decide)]
          | false =>
            rw [List.filter_cons_of_neg (by rw [hf]; decide)] at h
            obtain ⟨ds', h1, h2, h3, h4, h5⟩ := play_flush f xs ds _ e rest h
            refine ⟨0 :: ds', by simp [h1], keep ds' h2, ?_, ?_, fun g hg => ?_⟩
            · rw [List.zip_cons_cons, List.zip_cons_cons, play_write hx hw, play_write hx hw, h3]
            · rw [List.zip_cons_cons, play_write hx hw, if_pos rfl, ← hc, List.filter_cons_of_neg (by rw [hf]; decide), h4]
            · rw [List.zip_cons_cons, List.zip_cons_cons, play_write hx hw, play_write hx hw, if_pos rfl, if_pos rfl, List.filter_cons, List.filter_cons, h5 g hg]
        · simp only [if_neg hd] at h
          obtain ⟨ds', h1, h2, h3, h4, h5⟩ := play_flush f xs ds _ e rest h
          refine ⟨d :: ds', by simp [h1], keep ds' h2, ?_, ?_, fun g hg => ?_⟩
          · rw [List.zip_cons_cons, List.zip_cons_cons, play_write hx hw, play_write hx hw, h3]
          · rw [List.zip_cons_cons, play_write hx hw, if_neg hd, h4]
          · rw [List.zip_cons_cons, List.zip_cons_cons, play_write hx hw, play_write hx hw, if_neg hd, if_neg hd, h5 g hg]
      · rw [play_other hx hw] at h
        obtain ⟨ds', h1, h2, h3, h4, h5⟩ := play_flush f xs ds _ e rest h
        refine ⟨d :: ds', by simp [h1], keep ds' h2, ?_, ?_, fun g hg => ?_⟩
        · rw [List.zip_cons_cons, List.zip_cons_cons, play_other hx hw, play_other hx hw, h3]
        · rw [List.zip_cons_cons, play_other hx hw, h4]
        · rw [List.zip_cons_cons, List.zip_cons_cons, play_other hx hw, play_other hx hw, h5 g hg]
def selB (split : Bool) (i : Nat) (e : Int × Int) : Bool := !split || e.1 == (i : Int)
/-- What a thread's part of a state owes to its history. -/
structure HRow (split : Bool) (s : St) (t : Nat) (xs : List Ins) (ds : List Int) : Prop where
  dl : ds.length ≤ xs.length
  pc : s.pc[t]? = some (ds.length : Int)
  dig : ∀ (k : Nat) d, ds[k]? = some d → 0 ≤ d ∧ d < 4
  fen : ∀ (k : Nat) x d, xs[k]? = some x → ds[k]? = some d → x.op = 4 → d = 0
  reg : ∀ r, r < 3 → s.regs.getD (t * 3 + r) 0 = (play [0, 0, 0] (xs.zip ds)).1.getD r 0
  buf : ∀ i, i < nb split → row4 s (t * nb split + i) = (play [0, 0, 0] (xs.zip ds)).2.filter (selB split i)
structure HOk (p : Prg) (split : Bool) (s : St) (h : List (List Int)) : Prop where
  len : h.length = p.length
  row : ∀ (t : Nat) xs ds, p[t]? = some xs → h[t]? = some ds → HRow split s t xs ds
theorem HRow.other {split : Bool} {s s' : St} {t : Nat} {xs : List Ins} {ds : List Int} (h : HRow split s t xs ds) (h1 : s'.pc[t]? = s.pc[t]?) (h2 : ∀ r, r < 3 → s'.regs.getD (t * 3 + r) 0 = s.regs.getD (t * 3 + r) 0) (h3 : ∀ i, i < nb split → row4 s' (t * nb split + i) = row4 s (t * nb split + i)) : HRow split s' t xs ds :=
  ⟨h.dl, h1.trans h.pc, h.dig, h.fen, fun r hr => (h2 r hr).trans (h.reg r hr), fun i hi => (h3 i hi).trans (h.buf i hi)⟩
theorem HOk.start (p : Prg) (split : Bool) : HOk p split (start4 p split) (List.replicate p.length []) := by
  refine ⟨by simp, fun t xs ds hx hd => ?_⟩
  have hd := (List.mem_replicate.1 (List.mem_of_getElem? hd)).2
  subst hd
  have ht := (List.getElem?_eq_some_iff.1 hx).1
  refine ⟨Nat.zero_le _, ?_, fun k d h => by simp at h, fun k x d _ h => by simp at h, fun r hr => ?_, fun i hi => ?_⟩
  · simp [start4, start3, List.getElem?_replicate, ht]
  · rw [List.zip_nil_right, show (play [0, 0, 0] []).1 = [0, 0, 0] from rfl]
    have e1 : ([0, 0, 0] : List Int).getD r 0 = 0 := by
      match r, hr with
      | 0, _ => rfl
      | 1, _ => rfl
      | 2, _ => rfl
    rw [e1]
    simp only [start4, start3, List.getD_eq_getElem?_getD, List.getElem?_replicate]
    split <;> rfl
  · rw [List.zip_nil_right, show (play [0, 0, 0] []).2 = [] from rfl]
    unfold row4 start4 start3
    simp only [List.getD_eq_getElem?_getD, List.getElem?_replicate]
    split <;> rfl
theorem zip_snoc {α β : Type} : ∀ (xs : List α) (ds : List β) (x : α) (d : β), xs[ds.length]? = some x → xs.zip (ds ++ [d]) = xs.zip ds ++ [(x, d)]
  | [], ds, x, d, h => by simp at h
  | y :: xs, [], x, d, h => by simp at h; subst h; simp
  | y :: xs, e :: ds, x, d, h => by
    simp only [List.length_cons, List.getElem?_cons_succ] at h
    rw [List.cons_append, List.zip_cons_cons, List.zip_cons_cons, zip_snoc xs ds x d h, List.cons_append]
theorem place_ne {t u l i : Nat} {split : Bool} (ht : t ≠ u) (hl : l ≤ 2) (hi : i < nb split) : place t l split ≠ u * nb split + i := by
  obtain ⟨j, hj, he⟩ := place_eq t l split hl
  intro e1
  rw [he] at e1
  have hp := nb_pos split
  have h1 : (t * nb split + j) / nb split = t := by rw [Nat.mul_comm, Nat.mul_add_div (by omega), Nat.div_eq_of_lt hj]; rfl
  have h2 : (u * nb split + i) / nb split = u := by rw [Nat.mul_comm, Nat.mul_add_div (by omega), Nat.div_eq_of_lt hi]; rfl
  rw [e1, h2] at h1
  exact ht h1.symm
theorem play_eval {s : St} {t : Nat} {split : Bool} {xs : List Ins} {ds : List Int} (h : HRow split s t xs ds) {x : Ins} (hx : insValid x = true) : wval s t x = if x.op = 3 then (play [0, 0, 0] (xs.zip ds)).1.getD x.reg.toNat 0 else x.val := by
  unfold wval
  obtain ⟨r, hr, hr2⟩ := valid_reg hx
  rw [hr, Int.toNat_natCast, h.reg r (by omega)]
/-- A thread has gone on: its row. -/
theorem HRow.go {split : Bool} {s s' : St} {t k : Nat} {xs : List Ins} {x : Ins} {ds : List Int} (h : HRow split s t xs ds) (hk : s.pc[t]? = some (k : Int)) (hx : xs[k]? = some x) {d : Int} (hd : 0 ≤ d ∧ d < 4) (hf : x.op = 4 → d = 0)
    (h1 : s'.pc[t]? = some ((k : Int) + 1)) (h2 : ∀ r, r < 3 → s'.regs.getD (t * 3 + r) 0 = (play [0, 0, 0] (xs.zip ds ++ [(x, d)])).1.getD r 0) (h3 : ∀ i, i < nb split → row4 s' (t * nb split + i) = (play [0, 0, 0] (xs.zip ds ++ [(x, d)])).2.filter (selB split i)) : HRow split s' t xs (ds ++ [d]) := by
  have hpc := h.pc
  rw [hk] at hpc
  have hkl : ds.length = k := by have := Option.some.inj hpc; omega
  have hz : xs.zip (ds ++ [d]) = xs.zip ds ++ [(x, d)] := zip_snoc xs ds x d (by rw [hkl]; exact hx)
  have hkx := (List.getElem?_eq_some_iff.1 hx).1
  have at_ : ∀ (j : Nat) e, (ds ++ [d])[j]? = some e → ds[j]? = some e ∨ (j = k ∧ e = d) := by
    intro j e he
    rw [List.getElem?_append] at he
    split at he
    · exact .inl he
    · rename_i hj
      have : j - ds.length = 0 := by
        have := (List.getElem?_eq_some_iff.1 he).1
        simp at this
        omega
      rw [this] at he
      exact .inr ⟨by omega, by simpa using he.symm⟩
  refine ⟨by rw [List.length_append, List.length_singleton]; omega, by rw [h1, List.length_append, List.length_singleton, hkl]; simp, fun j e he => ?_, fun j y e hy he h4 => ?_, fun r hr => by rw [hz]; exact h2 r hr, fun i hi => by rw [hz]; exact h3 i hi⟩
  · rcases at_ j e he with h5 | ⟨_, rfl⟩
    · exact h.dig j e h5
    · exact hd
  · rcases at_ j e he with h5 | ⟨rfl, rfl⟩
    · exact h.fen j y e hy h5 h4
    · rw [hx] at hy
      exact hf ((Option.some.inj hy) ▸ h4)
theorem getD_set {xs : List Int} {j c : Nat} {v : Int} (hj : j < xs.length) : (xs.set j v).getD c 0 = if j = c then v else xs.getD c 0 := pcD_set hj
theorem HOk.set {p : Prg} {split : Bool} {s s' : St} {h : List (List Int)} {t : Nat} {xs : List Ins} {ds' : List Int} (hh : HOk p split s h) (ht : p[t]? = some xs) (hr : HRow split s' t xs ds')
    (ho : ∀ (u : Nat) ys ds, u ≠ t → p[u]? = some ys → h[u]? = some ds → HRow split s' u ys ds) : HOk p split s' (h.set t ds') := by
  refine ⟨by rw [List.length_set]; exact hh.len, fun u ys ds hy hd => ?_⟩
  by_cases e : u = t
  · subst e
    rw [ht] at hy
    cases hy
    rw [List.getElem?_set_self (by rw [hh.len]; exact (List.getElem?_eq_some_iff.1 ht).1)] at hd
    cases hd
    exact hr
  · rw [List.getElem?_set_ne (fun h => e h.symm)] at hd
    exact ho u ys ds e hy hd
theorem play3 {l : List (Ins × Int)} : (play [0, 0, 0] l).1.length = 3 := play_len l _
/-- A move: the history goes on. -/
theorem HOk.step {p : Prg} {split : Bool} {s : St} {h : List (List Int)} (hh : HOk p split s h) (hg : Good4 p split s) (hv : Shape p) {m : Nat} (hm : m < p.length + s.buf.length) (hc : can4 p s split m = true) : ∃ h', HOk p split (do4 p s split m) h' := by
  unfold can4 at hc
  unfold do4
  by_cases hlt : m < p.length
  · rw [if_pos hlt] at hc ⊢
    unfold ready4 at hc
    simp only [Bool.and_eq_true] at hc
    obtain ⟨xs, k, x, hp, hk, hx, hiv, hn, _⟩ := hg.next hv hc.1
    obtain ⟨ds, hds⟩ : ∃ ds, h[m]? = some ds := ⟨_, List.getElem?_eq_getElem (by rw [hh.len]; exact hlt)⟩
    have hR := hh.row m xs ds hp hds
    have hpl : m < s.pc.length := by rw [hg.pcl]; exact hlt
    have e0 : s.pc.getD m 0 = (k : Int) := by rw [List.getD_eq_getElem?_getD, hk]; rfl
    have hpc' : (s.pc.set m (s.pc.getD m 0 + 1))[m]? = some ((k : Int) + 1) := by rw [List.getElem?_set_self hpl, e0]
    have hpo : ∀ u, u ≠ m → (s.pc.set m (s.pc.getD m 0 + 1))[u]? = s.pc[u]? := fun u hu => List.getElem?_set_ne (fun e => hu e.symm)
    obtain ⟨rn, hrn, hr2⟩ := valid_reg hiv
    obtain ⟨ln, hln, hl2⟩ := valid_loc hiv
    have hop := valid_op hiv
    have hrl : m * 3 + rn < s.regs.length := by rw [hg.regl]; omega
    have hro : ∀ (v : Int) u r, u ≠ m → r < 3 → (s.regs.set (m * 3 + rn) v).getD (u * 3 + r) 0 = s.regs.getD (u * 3 + r) 0 := fun v u r hu hr => by
      rw [getD_set hrl, if_neg (by omega)]
    have hrs : ∀ (v : Int) r, r < 3 → (s.regs.set (m * 3 + rn) v).getD (m * 3 + r) 0 = ((play [0, 0, 0] (xs.zip ds)).1.set rn v).getD r 0 := fun v r hr => by
      rw [getD_set hrl, getD_set (by rw [play3]; omega), hR.reg r hr]
      by_cases e : rn = r
      · subst e; simp
      · rw [if_neg (by omega), if_neg e]
    have hrd : ∀ (v : Int), (0 ≤ v ∧ v < 4) → insReads x = true → ∀ s' : St, s'.pc = s.pc.set m (s.pc.getD m 0 + 1) → s'.regs = s.regs.set (m * 3 + rn) v → s'.buf = s.buf → HOk p split s' (h.set m (ds ++ [v])) := fun v hv4 hrx s' e1 e2 e3 => by
      have er : ∀ b, row4 s' b = row4 s b := fun b => by unfold row4; rw [e3]
      refine hh.set hp (hR.go hk hx hv4 (fun h4 => by simp [insReads, h4] at hrx) (by rw [e1, hpc']) (fun r hr => ?_) (fun i hi => ?_)) fun u ys es hu hy he => (hh.row u ys es hy he).other (by rw [e1, hpo u hu]) (fun r hr => by rw [e2, hro v u r hu hr]) (fun i _ => er _)
      · rw [e2, hrs v r hr, play_snoc_read _ _ _ _ hrx, hrn, Int.toNat_natCast]
      · rw [er, hR.buf i hi, play_snoc_read _ _ _ _ hrx]
    rw [hn]
    cases hwt : waits4 x with
    | true =>
      simp only [if_true]
      unfold do3
      rw [hn]
      by_cases h5 : x.op = 5
      · have hrx : insReads x = true := by simp [insReads, h5]
        have hv := hg.memv x.loc.toNat
        refine ⟨_, hrd (s.mem.getD x.loc.toNat 0) ⟨hv.1, by omega⟩ hrx _ rfl ?_ rfl⟩
        dsimp only
        rw [if_pos hrx, hrn, Int.toNat_natCast]
      · have h4 : x.op = 4 := by
          unfold waits4 at hwt
          simp only [Bool.or_eq_true, beq_iff_eq] at hwt
          omega
        have hrx : insReads x = false := by simp [insReads, h4]
        refine ⟨_, hh.set hp (hR.go hk hx (d := 0) (by decide) (fun _ => rfl) hpc' (fun r hr => ?_) (fun i hi => ?_)) fun u ys es hu hy he => (hh.row u ys es hy he).other (hpo u hu) (fun r hr => ?_) (fun i _ => rfl)⟩
        · rw [play_snoc_other _ _ _ _ hrx (by omega)]
          dsimp only
          rw [if_neg (by rw [hrx]; decide)]
          exact hR.reg r hr
        · rw [play_snoc_other _ _ _ _ hrx (by omega)]
          exact hR.buf i hi
        · dsimp only
          rw [if_neg (by rw [hrx]; decide)]
    | false =>
      simp only [Bool.false_eq_true, if_false]
      have hnw : x.op ≠ 4 ∧ x.op ≠ 5 := by
        unfold waits4 at hwt
        simp only [Bool.or_eq_false_iff, beq_eq_false_iff_ne] at hwt
        exact hwt
      by_cases h1 : x.op = 1
      · rw [if_pos h1]
        have hrx : insReads x = true := by simp [insReads, h1]
        have hv := hg.seen (split := split) m x.loc.toNat
        refine ⟨_, hrd (seen4 s m x.loc.toNat split) ⟨hv.1, by omega⟩ hrx _ rfl ?_ rfl⟩
        dsimp only
        rw [hrn, Int.toNat_natCast]
      · rw [if_neg h1, hln, Int.toNat_natCast]
        have hrx : insReads x = false := by simp [insReads, h1, hnw.2]
        have hw23 : x.op = 2 ∨ x.op = 3 := by omega
        have hpb : place m ln split < s.buf.length := by rw [hg.bufl]; exact place_lt hlt hl2
        refine ⟨_, hh.set hp (hR.go hk hx (d := 0) (by decide) (fun _ => rfl) hpc' (fun r hr => ?_) (fun i hi => ?_)) fun u ys es hu hy he => (hh.row u ys es hy he).other (hpo u hu) (fun r hr => rfl) (fun i hi => ?_)⟩
        · rw [play_snoc_write _ _ _ hrx hw23]
          exact hR.reg r hr
        · rw [play_snoc_write _ _ _ hrx hw23, ← play_eval hR hiv, row4_set hpb, hln]
          dsimp only
          rw [List.filter_append, ← hR.buf i hi]
          by_cases e : place m ln split = m * nb split + i
          · rw [if_pos e, e, List.filter_cons_of_pos, List.filter_nil]
            cases split with
            | false => rfl
            | true =>
              simp only [place, nb, if_true] at e
              simp only [selB, Bool.not_true, Bool.false_or, beq_iff_eq]
              omega
          · rw [if_neg e, List.filter_cons_of_neg, List.filter_nil, List.append_nil]
            cases split with
            | false =>
              simp only [place, nb, Bool.false_eq_true, if_false] at e hi
              omega
            | true =>
              simp only [place, nb, if_true] at e
              simp only [selB, Bool.not_true, Bool.false_or, beq_iff_eq]
              omega
        · rw [row4_set hpb, if_neg (place_ne (fun e => hu e.symm) hl2 hi)]
  · rw [if_neg hlt] at hc ⊢
    obtain ⟨b, hb⟩ : ∃ b, b = m - p.length := ⟨_, rfl⟩
    rw [← hb] at hc ⊢
    have hbl : b < s.buf.length := by omega
    have hnp := nb_pos split
    have hbl' := hbl
    rw [hg.bufl] at hbl'
    have ht : b / nb split < p.length := (Nat.div_lt_iff_lt_mul (by omega)).2 hbl'
    have hi : b % nb split < nb split := Nat.mod_lt _ (by omega)
    have e : b / nb split * nb split + b % nb split = b := by rw [Nat.mul_comm]; exact Nat.div_add_mod b (nb split)
    obtain ⟨xs, hp⟩ : ∃ xs, p[b / nb split]? = some xs := ⟨_, List.getElem?_eq_getElem ht⟩
    obtain ⟨ds, hds⟩ : ∃ ds, h[b / nb split]? = some ds := ⟨_, List.getElem?_eq_getElem (by rw [hh.len]; exact ht)⟩
    have hR := hh.row _ xs ds hp hds
    have hrow := hR.buf _ hi
    rw [e] at hrow
    cases hr : row4 s b with
    | nil => rw [hr] at hc; simp at hc
    | cons c r =>
      obtain ⟨ds', h1, h2, h3, h4, h5⟩ := play_flush (selB split (b % nb split)) xs ds [0, 0, 0] c r (by rw [← hrow, hr])
      have hrt : ∀ c', row4 (flush4 p s b) c' = if b = c' then r else row4 s c' := fun c' => by
        unfold flush4
        rw [row4_set hbl, hr]
        rfl
      refine ⟨_, hh.set (s' := flush4 p s b) (ds' := ds') hp ⟨by rw [h1]; exact hR.dl, by rw [h1]; exact hR.pc, fun k d hk => ?_, fun k x d hx hk h4' => ?_, fun r hr => by rw [h3]; exact hR.reg r hr, fun i hi2 => ?_⟩ fun u ys es hu hy he => (hh.row u ys es hy he).other rfl (fun _ _ => rfl) (fun i hi2 => ?_)⟩
      · rcases h2 k d hk with h | ⟨rfl, _⟩
        · exact hR.dig k d h
        · decide
      · rcases h2 k d hk with h | ⟨rfl, h⟩
        · exact hR.fen k x d hx h h4'
        · exact absurd h4' (h x hx)
      · rw [hrt]
        by_cases e1 : b = b / nb split * nb split + i
        · have : i = b % nb split := by omega
          rw [if_pos e1, this, h4]
        · rw [if_neg e1, h5 _ (fun e2 he2 => ?_), hR.buf i hi2]
          have hne : i ≠ b % nb split := fun e2 => e1 (by rw [e2, e])
          cases split with
          | false =>
            simp only [nb, Bool.false_eq_true, if_false] at hi2 hi hne
            omega
          | true =>
            simp only [selB, Bool.not_true, Bool.false_or, beq_iff_eq, beq_eq_false_iff_ne] at he2 ⊢
            omega
      · rw [hrt, if_neg]
        intro e1
        apply hu
        have h7 : (u * nb split + i) / nb split = u := by rw [Nat.mul_comm, Nat.mul_add_div (by omega), Nat.div_eq_of_lt hi2]; rfl
        rw [← e1] at h7
        exact h7.symm
/-- The history and the memory tell the state. -/
theorem hist_inj {p : Prg} {split : Bool} {s s' : St} {h : List (List Int)} (hg : Good4 p split s) (hg' : Good4 p split s') (hh : HOk p split s h) (hh' : HOk p split s' h) (hm : s.mem = s'.mem) : s = s' := by
  have e1 : s.pc = s'.pc := by
    apply List.ext_getElem?
    intro t
    by_cases ht : t < p.length
    · have hp := List.getElem?_eq_getElem ht
      have hd := List.getElem?_eq_getElem (l := h) (i := t) (by rw [hh.len]; exact ht)
      rw [(hh.row t _ _ hp hd).pc, (hh'.row t _ _ hp hd).pc]
    · rw [List.getElem?_eq_none (by rw [hg.pcl]; omega), List.getElem?_eq_none (by rw [hg'.pcl]; omega)]
  have e2 : s.regs = s'.regs := by
    apply List.ext_getElem?
    intro j
    by_cases hj : j < p.length * 3
    · have ht : j / 3 < p.length := by omega
      have hp := List.getElem?_eq_getElem ht
      have hd := List.getElem?_eq_getElem (l := h) (i := j / 3) (by rw [hh.len]; exact ht)
      have h1 := (hh.row _ _ _ hp hd).reg (j % 3) (by omega)
      have h2 := (hh'.row _ _ _ hp hd).reg (j % 3) (by omega)
      rw [← h2, show j / 3 * 3 + j % 3 = j by omega, List.getD_eq_getElem?_getD, List.getD_eq_getElem?_getD, List.getElem?_eq_getElem (by rw [hg.regl]; exact hj), List.getElem?_eq_getElem (by rw [hg'.regl]; exact hj)] at h1
      rw [List.getElem?_eq_getElem (by rw [hg.regl]; exact hj), List.getElem?_eq_getElem (by rw [hg'.regl]; exact hj)]
      exact congrArg some h1
    · rw [List.getElem?_eq_none (by rw [hg.regl]; omega), List.getElem?_eq_none (by rw [hg'.regl]; omega)]
  have e3 : s.buf = s'.buf := by
    apply List.ext_getElem?
    intro b
    by_cases hb : b < p.length * nb split
    · have hnp := nb_pos split
      have ht : b / nb split < p.length := (Nat.div_lt_iff_lt_mul (by omega)).2 hb
      have hi : b % nb split < nb split := Nat.mod_lt _ (by omega)
      have e : b / nb split * nb split + b % nb split = b := by rw [Nat.mul_comm]; exact Nat.div_add_mod b (nb split)
      have hp := List.getElem?_eq_getElem ht
      have hd := List.getElem?_eq_getElem (l := h) (i := b / nb split) (by rw [hh.len]; exact ht)
      have h1 := (hh.row _ _ _ hp hd).buf _ hi
      have h2 := (hh'.row _ _ _ hp hd).buf _ hi
      rw [← h2, e] at h1
      rw [row4_get (by rw [hg.bufl]; exact hb), row4_get (by rw [hg'.bufl]; exact hb), h1]
    · rw [List.getElem?_eq_none (by rw [hg.bufl]; omega), List.getElem?_eq_none (by rw [hg'.bufl]; omega)]
  cases s; cases s'
  simp only at e1 e2 e3 hm
  rw [e1, e2, e3, hm]
/-- The digits of a history that tell it, where it is known how far the threads are. -/
def evP (e : Ins × Int) : Bool := evB e.1
def digT (xs : List Ins) (ds : List Int) : List Int := ((xs.zip ds).filter evP).map (·.2)
def digs : Prg → List (List Int) → List Int
  | xs :: p, ds :: h => digT xs ds ++ digs p h
  | _, _ => []
theorem digT_len : ∀ (xs : List Ins) (ds : List Int), (digT xs ds).length ≤ xs.countP evB
  | [], ds => by simp [digT]
  | x :: xs, [] => by simp [digT]
  | x :: xs, d :: ds => by
    have := digT_len xs ds
    unfold digT at this ⊢
    rw [List.zip_cons_cons, List.countP_cons]
    cases h : evB x with
    | true => rw [List.filter_cons_of_pos (by unfold evP; exact h)]; simp at this ⊢; omega
    | false => rw [List.filter_cons_of_neg (by unfold evP; rw [h]; decide)]; simp at this ⊢; omega
theorem digs_len : ∀ (p : Prg) (h : List (List Int)), (digs p h).length ≤ ev p
  | [], h => by simp [digs]
  | xs :: p, [] => by simp [digs]
  | xs :: p, ds :: h => by
    have h1 := digT_len xs ds
    have h2 := digs_len p h
    unfold digs
    unfold ev tot at h2 ⊢
    rw [List.length_append, List.map_cons, List.sum_cons]
    omega
theorem digT_bd {xs : List Ins} {ds : List Int} (h : ∀ (k : Nat) d, ds[k]? = some d → 0 ≤ d ∧ d < 4) : ∀ d ∈ digT xs ds, 0 ≤ d ∧ d < 4 := by
  intro d hd
  unfold digT at hd
  obtain ⟨e, he, rfl⟩ := List.mem_map.1 hd
  have := (List.of_mem_zip (List.mem_filter.1 he).1).2
  obtain ⟨k, hk⟩ := List.mem_iff_getElem?.1 this
  exact h k _ hk
theorem digs_bd : ∀ (p : Prg) (h : List (List Int)), (∀ ds ∈ h, ∀ (k : Nat) d, ds[k]? = some d → 0 ≤ d ∧ d < 4) → ∀ d ∈ digs p h, 0 ≤ d ∧ d < 4
  | [], h, hd, d, he => by simp [digs] at he
  | xs :: p, [], hd, d, he => by simp [digs] at he
  | xs :: p, ds :: h, hd, d, he => by
    unfold digs at he
    rcases List.mem_append.1 he with he | he
    · exact digT_bd (hd ds List.mem_cons_self) d he
    · exact digs_bd p h (fun es hes => hd es (List.mem_cons_of_mem _ hes)) d he
theorem digT_same_len : ∀ (xs : List Ins) (ds ds' : List Int), ds.length = ds'.length → (digT xs ds).length = (digT xs ds').length
  | [], ds, ds', _ => by simp [digT]
  | x :: xs, [], [], _ => rfl
  | x :: xs, [], d' :: ds', h => by simp at h
  | x :: xs, d :: ds, [], h => by simp at h
  | x :: xs, d :: ds, d' :: ds', h => by
    have := digT_same_len xs ds ds' (by simpa using h)
    unfold digT at this ⊢
    rw [List.zip_cons_cons, List.zip_cons_cons]
    cases h : evB x with
    | true => rw [List.filter_cons_of_pos (by unfold evP; exact h), List.filter_cons_of_pos (by unfold evP; exact h)]; simpa using this
    | false => rw [List.filter_cons_of_neg (by unfold evP; rw [h]; decide), List.filter_cons_of_neg (by unfold evP; rw [h]; decide)]; exact this
theorem digT_inj : ∀ (xs : List Ins) (ds ds' : List Int), ds.length = ds'.length → ds.length ≤ xs.length → (∀ (k : Nat) x d, xs[k]? = some x → ds[k]? = some d → x.op = 4 → d = 0) → (∀ (k : Nat) x d, xs[k]? = some x → ds'[k]? = some d → x.op = 4 → d = 0) → digT xs ds = digT xs ds' → ds = ds'
  | xs, [], [], _, _, _, _, _ => rfl
  | xs, [], d' :: ds', h, _, _, _, _ => by simp at h
  | xs, d :: ds, [], h, _, _, _, _ => by simp at h
  | [], d :: ds, d' :: ds', _, h, _, _, _ => by simp at h
  | x :: xs, d :: ds, d' :: ds', h, hl, f, f', he => by
    have ih := digT_inj xs ds ds' (by simpa using h) (by simpa using hl) (fun k y e hy hd => f (k + 1) y e (by simpa using hy) (by simpa using hd)) (fun k y e hy hd => f' (k + 1) y e (by simpa using hy) (by simpa using hd))
    unfold digT at he ih
    rw [List.zip_cons_cons, List.zip_cons_cons] at he
    cases hx : evB x with
    | true =>
      rw [List.filter_cons_of_pos (by unfold evP; exact hx), List.filter_cons_of_pos (by unfold evP; exact hx), List.map_cons, List.map_cons] at he
      obtain ⟨h1, h2⟩ := List.cons.inj he
      have h1 : d = d' := h1
      rw [h1, ih h2]
    | false =>
      rw [List.filter_cons_of_neg (by unfold evP; rw [hx]; decide), List.filter_cons_of_neg (by unfold evP; rw [hx]; decide)] at he
      have h4 : x.op = 4 := by simpa [evB] using hx
      rw [ih he, f 0 x d rfl rfl h4, f' 0 x d' rfl rfl h4]
theorem digs_inj : ∀ (p : Prg) (h h' : List (List Int)), h.length = p.length → h'.length = p.length → (∀ (t : Nat) xs ds ds', p[t]? = some xs → h[t]? = some ds → h'[t]? = some ds' → ds.length = ds'.length ∧ ds.length ≤ xs.length ∧ (∀ (k : Nat) x d, xs[k]? = some x → ds[k]? = some d → x.op = 4 → d = 0) ∧ (∀ (k : Nat) x d, xs[k]? = some x → ds'[k]? = some d → x.op = 4 → d = 0)) → digs p h = digs p h' → h = h'
  | [], [], [], _, _, _, _ => rfl
  | [], x :: h, h', h1, _, _, _ => by simp at h1
  | [], [], x :: h', _, h2, _, _ => by simp at h2
  | xs :: p, [], h', h1, _, _, _ => by simp at h1
  | xs :: p, ds :: h, [], _, h2, _, _ => by simp at h2
  | xs :: p, ds :: h, ds' :: h', h1, h2, hA, he => by
    obtain ⟨a1, a2, a3, a4⟩ := hA 0 xs ds ds' rfl rfl rfl
    unfold digs at he
    obtain ⟨e1, e2⟩ := List.append_inj he (digT_same_len xs ds ds' a1)
    rw [digT_inj xs ds ds' a1 a2 a3 a4 e1, digs_inj p h h' (by simpa using h1) (by simpa using h2) (fun t ys es es' hy hs hs' => hA (t + 1) ys es es' (by simpa using hy) (by simpa using hs) (by simpa using hs')) e2]
/-- A state with store buffers as the moves make it. -/
structure R4 (p : Prg) (split : Bool) (s : St) : Prop extends Good4 p split s where
  hist : ∃ h, HOk p split s h
theorem R4.start (p : Prg) (split : Bool) : R4 p split (start4 p split) := ⟨good_start4 p split, _, HOk.start p split⟩
theorem R4.step {p : Prg} {split : Bool} {s : St} (h : R4 p split s) (hv : Shape p) {m : Nat} (hm : m < p.length + s.buf.length) (hc : can4 p s split m = true) : R4 p split (do4 p s split m) := by
  obtain ⟨hh, hk⟩ := h.hist
  exact ⟨h.toGood4.do4 hv hm hc, hk.step h.toGood4 hv hm hc⟩
noncomputable def hOf (p : Prg) (split : Bool) (s : St) : List (List Int) := open Classical in if h : ∃ h, HOk p split s h then h.choose else []
theorem R4.hOf {p : Prg} {split : Bool} {s : St} (h : R4 p split s) : HOk p split s (Proofs.Ytbncmeggnhggkaa.hOf p split s) := by
  unfold Proofs.Ytbncmeggnhggkaa.hOf
  rw [dif_pos h.hist]
  exact h.hist.choose_spec
noncomputable def code4 (p : Prg) (split : Bool) (s : St) : Nat := (code 8 s.pc * 4 ^ 12 + code 4 (digs p (hOf p split s))) * 4 ^ 3 + code 4 s.mem
theorem R4.dbd {p : Prg} {split : Bool} {s : St} (h : R4 p split s) : ∀ d ∈ digs p (Proofs.Ytbncmeggnhggkaa.hOf p split s), 0 ≤ d ∧ d < 4 := by
  refine digs_bd p _ fun ds hds k d hd => ?_
  obtain ⟨t, ht⟩ := List.mem_iff_getElem?.1 hds
  have hk := h.hOf
  have htl : t < p.length := by rw [← hk.len]; exact (List.getElem?_eq_some_iff.1 ht).1
  exact (hk.row t _ ds (List.getElem?_eq_getElem htl) ht).dig k d hd
theorem mul_add_lt {a b A B : Nat} (ha : a < A) (hb : b < B) : a * B + b < A * B := by
  have : (a + 1) * B ≤ A * B := Nat.mul_le_mul_right _ ha
  rw [Nat.add_mul, Nat.one_mul] at this
  omega
theorem mul_add_inj {a b c d B : Nat} (hb : b < B) (hd : d < B) (h : a * B + b = c * B + d) : a = c ∧ b = d := by
  have q1 := congrArg (· / B) h
  have q2 := congrArg (· % B) h
  have hq : 0 < B := by omega
  simp only [Nat.mul_comm a B, Nat.mul_comm c B, Nat.mul_add_div hq, Nat.mul_add_mod, Nat.div_eq_of_lt hb, Nat.div_eq_of_lt hd, Nat.mod_eq_of_lt hb, Nat.mod_eq_of_lt hd, Nat.add_zero] at q1 q2
  exact ⟨q1, q2⟩
theorem R4.parts {p : Prg} {split : Bool} {s : St} (h : R4 p split s) (hv : Shape p) : code 8 s.pc < 8 ^ 3 ∧ code 4 (digs p (Proofs.Ytbncmeggnhggkaa.hOf p split s)) < 4 ^ 12 ∧ code 4 s.mem < 4 ^ 3 :=
  ⟨Proofs.Ytbncmeggnhggkaa.code_lt 8 (by decide) 3 s.pc (by rw [h.pcl]; exact hv.len) (h.toGood.pc7 hv),
   Proofs.Ytbncmeggnhggkaa.code_lt 4 (by decide) 12 _ (Nat.le_trans (digs_len _ _) hv.ev) h.dbd,
   Proofs.Ytbncmeggnhggkaa.code_lt 4 (by decide) 3 s.mem (by rw [h.meml]; exact Nat.le_refl _) fun x hx => by have := h.memb x hx; omega⟩
theorem R4.code_lt {p : Prg} {split : Bool} {s : St} (h : R4 p split s) (hv : Shape p) : code4 p split s < 8 ^ 3 * 4 ^ 12 * 4 ^ 3 := by
  obtain ⟨h1, h2, h3⟩ := h.parts hv
  unfold code4
  exact mul_add_lt (mul_add_lt h1 h2) h3
theorem R4.code_inj {p : Prg} {split : Bool} {s s' : St} (h : R4 p split s) (h' : R4 p split s') (hv : Shape p) (he : code4 p split s = code4 p split s') : s = s' := by
  obtain ⟨a1, a2, a3⟩ := h.parts hv
  obtain ⟨b1, b2, b3⟩ := h'.parts hv
  unfold code4 at he
  obtain ⟨e1, em⟩ := mul_add_inj a3 b3 he
  obtain ⟨ep, ed⟩ := mul_add_inj a2 b2 e1
  have hm := Proofs.Ytbncmeggnhggkaa.code_inj 4 _ _ (by rw [h.meml, h'.meml]) (fun x hx => by have := h.memb x hx; omega) (fun x hx => by have := h'.memb x hx; omega) em
  have hp := Proofs.Ytbncmeggnhggkaa.code_inj 8 _ _ (by rw [h.pcl, h'.pcl]) (h.toGood.pc7 hv) (h'.toGood.pc7 hv) ep
  have k := h.hOf
  have k' := h'.hOf
  have hlen : ∀ (t : Nat) xs ds ds', p[t]? = some xs → (Proofs.Ytbncmeggnhggkaa.hOf p split s)[t]? = some ds → (Proofs.Ytbncmeggnhggkaa.hOf p split s')[t]? = some ds' → ds.length = ds'.length := fun t xs ds ds' hx hd hd' => by
    have e1 := (k.row t xs ds hx hd).pc
    have e2 := (k'.row t xs ds' hx hd').pc
    rw [hp, e2] at e1
    have := Option.some.inj e1
    omega
  have same : ∀ (q : Prg) (H H' : List (List Int)), H.length = H'.length → (∀ (t : Nat) ds ds', H[t]? = some ds → H'[t]? = some ds' → ds.length = ds'.length) → (digs q H).length = (digs q H').length := by
    intro q
    induction q with
    | nil => intro H H' _ _; simp [digs]
    | cons xs q ih =>
      intro H H' hl hd
      cases H with
      | nil => cases H' with
        | nil => rfl
        | cons _ _ => simp at hl
      | cons ds H => cases H' with
        | nil => simp at hl
        | cons ds' H' =>
          unfold digs
          rw [List.length_append, List.length_append, digT_same_len xs ds ds' (hd 0 ds ds' rfl rfl), ih H H' (by simpa using hl) (fun t es es' h1 h2 => hd (t + 1) es es' (by simpa using h1) (by simpa using h2))]
  have hdig := Proofs.Ytbncmeggnhggkaa.code_inj 4 _ _ (same p _ _ (by rw [k.len, k'.len]) (fun t ds ds' h1 h2 => by
    have htl : t < p.length := by rw [← k.len]; exact (List.getElem?_eq_some_iff.1 h1).1
    exact hlen t _ ds ds' (List.getElem?_eq_getElem htl) h1 h2)) h.dbd h'.dbd ed
  have hh := digs_inj p _ _ k.len k'.len (fun t xs ds ds' hx hd hd' => ⟨hlen t xs ds ds' hx hd hd', (k.row t xs ds hx hd).dl, (k.row t xs ds hx hd).fen, (k'.row t xs ds' hx hd').fen⟩) hdig
  exact hist_inj h.toGood4 h'.toGood4 k (by rw [hh]; exact k') hm
end Go.Proofs.Ytbncmeggnhggkaa
