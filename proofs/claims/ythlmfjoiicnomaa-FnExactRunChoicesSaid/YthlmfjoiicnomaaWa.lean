/-
  PROVED HERE: words for the program's states with views; copy of rows, whatever the size of an element. CONDITIONS: as each theorem states.
-/
import Derived.Test.YthlmfjoiicnomaaImh
import Derived.Test.YthlmfjoiicnomaaVw
import Derived.Deep.MidRow
namespace Go.Proofs.Ythlmfjoiicnomaa
open Go.RowKit
set_option linter.unusedVariables false
set_option linter.unusedSimpArgs false

/-- The cells of a write, of a row of writes. -/
def wcell (m : Ms) : List Value := .int .u8 m.val :: .bool m.lock :: b8s m.view
def wcells (r : List Ms) : List Value := r.flatMap wcell
/-- The views of writes are three places each. -/
def V3 (r : List Ms) : Prop := ∀ m ∈ r, m.view.length = 3
theorem V3.tl {m : Ms} {r : List Ms} (h : V3 (m :: r)) : V3 r := fun x hx => h x (List.mem_cons_of_mem _ hx)
theorem V3.hd {m : Ms} {r : List Ms} (h : V3 (m :: r)) : (wcell m).length = 5 := by simp [wcell, h m List.mem_cons_self]
theorem len3 {v : List Int} (h : v.length = 3) : ∃ a b c, v = [a, b, c] := by
  match v, h with
  | [a, b, c], _ => exact ⟨a, b, c, rfl⟩
theorem wcells_len : ∀ {r : List Ms}, V3 r → (wcells r).length = r.length * 5
  | [], _ => rfl
  | m :: r, h => by
    unfold wcells
    rw [List.flatMap_cons, List.length_append, h.hd]
    have := wcells_len h.tl
    unfold wcells at this
    rw [this, List.length_cons]; omega
theorem wcells_cons (m : Ms) (r : List Ms) : wcells (m :: r) = wcell m ++ wcells r := rfl
theorem wcells_append (r r' : List Ms) : wcells (r ++ r') = wcells r ++ wcells r' := List.flatMap_append
theorem wcells_get : ∀ {r : List Ms} {k : Nat} {m : Ms} {j : Nat}, V3 r → r[k]? = some m → j < 5 → (wcells r)[k * 5 + j]? = (wcell m)[j]?
  | m' :: r, 0, m, j, h, e, hj => by
    simp at e
    subst e
    rw [wcells_cons, List.getElem?_append_left (by rw [h.hd]; omega)]
    congr 1; omega
  | m' :: r, k + 1, m, j, h, e, hj => by
    rw [wcells_cons, List.getElem?_append_right (by rw [h.hd]; omega), h.hd, show (k + 1) * 5 + j - 5 = k * 5 + j by omega]
    exact wcells_get h.tl (by simpa using e) hj
theorem wcells_set : ∀ {r : List Ms} {k : Nat} {m m' : Ms} {j : Nat} {v : Value}, V3 r → r[k]? = some m → j < 5 → (wcell m).set j v = wcell m' → (wcells r).set (k * 5 + j) v = wcells (r.set k m')
  | x :: r, 0, m, m', j, v, h, e, hj, hs => by
    simp at e
    subst e
    rw [wcells_cons, List.set_append_left _ _ (by rw [h.hd]; omega), show 0 * 5 + j = j by omega, hs]
    rfl
  | x :: r, k + 1, m, m', j, v, h, e, hj, hs => by
    rw [wcells_cons, List.set_append_right _ _ (by rw [h.hd]; omega), h.hd, show (k + 1) * 5 + j - 5 = k * 5 + j by omega, wcells_set h.tl (by simpa using e) hj hs]
    rfl
theorem V3.set {r : List Ms} (h : V3 r) {k : Nat} {m : Ms} (hm : m.view.length = 3) : V3 (r.set k m) := fun x hx => by
  rcases List.mem_or_eq_of_mem_set hx with e | rfl
  · exact h x e
  · exact hm
/-- Three cells of a write turn: its view. -/
theorem wcells_setv {r : List Ms} {k : Nat} {m : Ms} {a b c : Int} (h : V3 r) (e : r[k]? = some m) : (((wcells r).set (k * 5 + 2) (.int .u8 a)).set (k * 5 + 3) (.int .u8 b)).set (k * 5 + 4) (.int .u8 c) = wcells (r.set k { m with view := [a, b, c] }) := by
  obtain ⟨x, y, z, hv⟩ := len3 (h m (List.mem_of_getElem? e))
  obtain ⟨val, lock, view⟩ := m
  have hv : view = [x, y, z] := hv
  subst hv
  have hk := (List.getElem?_eq_some_iff.1 e).1
  rw [wcells_set (m' := ⟨val, lock, [a, y, z]⟩) h e (by decide) rfl]
  rw [wcells_set (m := ⟨val, lock, [a, y, z]⟩) (m' := ⟨val, lock, [a, b, z]⟩) (h.set rfl) (List.getElem?_set_self hk) (by decide) rfl]
  rw [wcells_set (m := ⟨val, lock, [a, b, z]⟩) (m' := ⟨val, lock, [a, b, c]⟩) ((h.set rfl).set rfl) (List.getElem?_set_self (by rw [List.length_set]; exact hk)) (by decide) rfl]
  rw [List.set_set, List.set_set]
theorem wcells_take : ∀ {r : List Ms} (k : Nat), V3 r → (wcells r).take (k * 5) = wcells (r.take k)
  | [], k, _ => by simp [wcells]
  | m :: r, 0, _ => by simp [wcells]
  | m :: r, k + 1, h => by
    rw [wcells_cons, List.take_append, h.hd, List.take_succ_cons, wcells_cons, show (k + 1) * 5 - 5 = k * 5 by omega, wcells_take k h.tl, List.take_of_length_le (by rw [h.hd]; omega)]
theorem wcells_drop : ∀ {r : List Ms} (k : Nat), V3 r → (wcells r).drop (k * 5) = wcells (r.drop k)
  | [], k, _ => by simp [wcells]
  | m :: r, 0, _ => by simp
  | m :: r, k + 1, h => by
    rw [wcells_cons, List.drop_append, h.hd, List.drop_succ_cons, show (k + 1) * 5 - 5 = k * 5 by omega, wcells_drop k h.tl, List.drop_of_length_le (by rw [h.hd]; omega), List.nil_append]
theorem wcells_one : ∀ (r : List Ms), ∀ u ∈ wcells r, u.oneCell' = true := by
  intro r u hu
  obtain ⟨m, _, hm⟩ := List.mem_flatMap.1 hu
  unfold wcell at hm
  rcases List.mem_cons.1 hm with rfl | hm
  · rfl
  rcases List.mem_cons.1 hm with rfl | hm
  · rfl
  obtain ⟨x, _, rfl⟩ := List.mem_map.1 hm
  rfl
/-- What all threads see, with threads that are not there. -/
def padV (V : List (List Int)) : List (List Int) := V ++ List.replicate (3 - V.length) [0, 0, 0]
theorem padV_len {V : List (List Int)} (h : V.length ≤ 3) : (padV V).length = 3 := by simp [padV]; omega
theorem padV_get {V : List (List Int)} {t : Nat} {v : List Int} (h : V[t]? = some v) : (padV V)[t]? = some v := by
  unfold padV
  rw [List.getElem?_append_left (List.getElem?_eq_some_iff.1 h).1]
  exact h
theorem padV_set {V : List (List Int)} {t : Nat} (v : List Int) (h : t < V.length) : (padV V).set t v = padV (V.set t v) := by
  unfold padV
  rw [List.set_append_left _ _ h, List.length_set]
theorem bump_zero {loc k : Nat} (hk : 1 ≤ k) : bump loc k [0, 0, 0] = [0, 0, 0] := by
  unfold bump
  rw [if_neg]
  have : ([0, 0, 0] : List Int).getD loc 0 = 0 := by
    match loc with
    | 0 => rfl
    | 1 => rfl
    | 2 => rfl
    | n + 3 => rfl
  rw [this]; omega
theorem padV_bump {V : List (List Int)} {loc k : Nat} (hk : 1 ≤ k) : (padV V).map (bump loc k) = padV (V.map (bump loc k)) := by
  unfold padV
  rw [List.map_append, List.map_replicate, bump_zero hk, List.length_map]
def U3 (U : List (List Int)) : Prop := U.length = 3 ∧ ∀ v ∈ U, v.length = 3
theorem U3.set {U : List (List Int)} (h : U3 U) {t : Nat} {v : List Int} (hv : v.length = 3) : U3 (U.set t v) := ⟨by rw [List.length_set]; exact h.1, fun x hx => by
  rcases List.mem_or_eq_of_mem_set hx with e | rfl
  · exact h.2 x e
  · exact hv⟩
theorem ucells_len {U : List (List Int)} (h : U3 U) : (b8s U.flatten).length = 9 := by
  match U, h.1 with
  | [a, b, c], _ => have h1 := h.2 a (by simp); have h2 := h.2 b (by simp); have h3 := h.2 c (by simp); simp [h1, h2, h3]
theorem ucells_get {U : List (List Int)} (h : U3 U) {o : Nat} {v : List Int} (e : U[o]? = some v) {j : Nat} {x : Int} (hj : v[j]? = some x) : (b8s U.flatten)[o * 3 + j]? = some (.int .u8 x) := by
  have hj3 : j < 3 := by have := (List.getElem?_eq_some_iff.1 hj).1; have := h.2 v (List.mem_of_getElem? e); omega
  rw [List.getElem?_map]
  match U, h.1 with
  | [a, b, c], _ =>
    have h1 := h.2 a (by simp); have h2 := h.2 b (by simp); have h3 := h.2 c (by simp)
    obtain ⟨a0, a1, a2, rfl⟩ := len3 h1
    obtain ⟨b0, b1, b2, rfl⟩ := len3 h2
    obtain ⟨c0, c1, c2, rfl⟩ := len3 h3
    match o, e with
    | 0, e => simp at e; subst e; match j, hj3 with | 0, _ => simp at hj; simp [hj] | 1, _ => simp at hj; simp [hj] | 2, _ => simp at hj; simp [hj]
    | 1, e => simp at e; subst e; match j, hj3 with | 0, _ => simp at hj; simp [hj] | 1, _ => simp at hj; simp [hj] | 2, _ => simp at hj; simp [hj]
    | 2, e => simp at e; subst e; match j, hj3 with | 0, _ => simp at hj; simp [hj] | 1, _ => simp at hj; simp [hj] | 2, _ => simp at hj; simp [hj]
    | n + 3, e => simp at e
theorem ucells_set1 {U : List (List Int)} (h : U3 U) {o : Nat} {v : List Int} (e : U[o]? = some v) {j : Nat} (hj3 : j < 3) (x : Int) : (b8s U.flatten).set (o * 3 + j) (.int .u8 x) = b8s (U.set o (v.set j x)).flatten := by
  match U, h.1 with
  | [a, b, c], _ =>
    have h1 := h.2 a (by simp); have h2 := h.2 b (by simp); have h3 := h.2 c (by simp)
    obtain ⟨a0, a1, a2, rfl⟩ := len3 h1
    obtain ⟨b0, b1, b2, rfl⟩ := len3 h2
    obtain ⟨c0, c1, c2, rfl⟩ := len3 h3
    match o, e with
    | 0, e => simp at e; subst e; match j, hj3 with | 0, _ => rfl | 1, _ => rfl | 2, _ => rfl
    | 1, e => simp at e; subst e; match j, hj3 with | 0, _ => rfl | 1, _ => rfl | 2, _ => rfl
    | 2, e => simp at e; subst e; match j, hj3 with | 0, _ => rfl | 1, _ => rfl | 2, _ => rfl
    | n + 3, e => simp at e
theorem ucells_set3 {U : List (List Int)} (h : U3 U) {o : Nat} (ho : o < 3) (a b c : Int) : (((b8s U.flatten).set (o * 3) (.int .u8 a)).set (o * 3 + 1) (.int .u8 b)).set (o * 3 + 2) (.int .u8 c) = b8s (U.set o [a, b, c]).flatten := by
  have hlt : o < U.length := by rw [h.1]; exact ho
  obtain ⟨v, hv⟩ : ∃ v, U[o]? = some v := ⟨_, List.getElem?_eq_getElem hlt⟩
  have hl := h.2 v (List.mem_of_getElem? hv)
  obtain ⟨x, y, z, rfl⟩ := len3 hl
  have e0 := ucells_set1 h hv (j := 0) (by decide) a
  rw [Nat.add_zero] at e0
  rw [e0]
  have h1 : U3 (U.set o ([x, y, z].set 0 a)) := h.set rfl
  rw [ucells_set1 h1 (List.getElem?_set_self hlt) (j := 1) (by decide) b]
  have h2 : U3 ((U.set o ([x, y, z].set 0 a)).set o (([x, y, z].set 0 a).set 1 b)) := h1.set rfl
  rw [ucells_set1 h2 (List.getElem?_set_self (by rw [List.length_set]; exact hlt)) (j := 2) (by decide) c]
  rw [List.set_set, List.set_set]
  rfl
/-- The cells of a state with views. -/
def vwC (hd : List Value) (L : Nat → Option Addr × Nat) (N : Nat → Nat) (U : List (List Int)) : List Value := hd ++ ([.slice (L 0).1 (N 0) (L 0).2, .slice (L 1).1 (N 1) (L 1).2, .slice (L 2).1 (N 2) (L 2).2] ++ b8s U.flatten)
section
variable {hd : List Value} {L : Nat → Option Addr × Nat} {N : Nat → Nat} {U : List (List Int)}
theorem vwC_hd (hh : hd.length = 16) {i : Nat} {v : Value} (h : hd[i]? = some v) : (vwC hd L N U)[i]? = some v := by
  unfold vwC
  rw [List.getElem?_append_left (List.getElem?_eq_some_iff.1 h).1]
  exact h
theorem vwC_l (hh : hd.length = 16) {l : Nat} (hl : l < 3) : (vwC hd L N U)[16 + l]? = some (.slice (L l).1 (N l) (L l).2) := by
  unfold vwC
  rw [List.getElem?_append_right (by omega), hh, show 16 + l - 16 = l by omega]
  match l, hl with
  | 0, _ => rfl
  | 1, _ => rfl
  | 2, _ => rfl
theorem vwC_o (hh : hd.length = 16) (h : U3 U) {o : Nat} {v : List Int} (e : U[o]? = some v) {j : Nat} {x : Int} (hj : v[j]? = some x) : (vwC hd L N U)[19 + (o * 3 + j)]? = some (.int .u8 x) := by
  unfold vwC
  rw [List.getElem?_append_right (by omega), List.getElem?_append_right (by simp; omega), hh]
  simp only [List.length_cons, List.length_nil]
  rw [show 19 + (o * 3 + j) - 16 - 3 = o * 3 + j by omega]
  exact ucells_get h e hj
theorem vwC_len (hh : hd.length = 16) (h : U3 U) : (vwC hd L N U).length = 28 := by
  unfold vwC
  rw [List.length_append, List.length_append, hh, ucells_len h]; rfl
theorem vwC_sethd (hh : hd.length = 16) {i : Nat} (hi : i < 16) (v : Value) : (vwC hd L N U).set i v = vwC (hd.set i v) L N U := by
  unfold vwC
  rw [List.set_append_left _ _ (by omega)]
def setL5 (L : Nat → Option Addr × Nat) (l : Nat) (r : Option Addr × Nat) : Nat → Option Addr × Nat := fun l' => if l' = l then r else L l'
def setN5 (N : Nat → Nat) (l : Nat) (n : Nat) : Nat → Nat := fun l' => if l' = l then n else N l'
theorem vwC_setl (hh : hd.length = 16) {l : Nat} (hl : l < 3) (a : Option Addr) (n c : Nat) : (vwC hd L N U).set (16 + l) (.slice a n c) = vwC hd (setL5 L l (a, c)) (setN5 N l n) U := by
  unfold vwC
  rw [List.set_append_right _ _ (by omega), hh, show 16 + l - 16 = l by omega]
  match l, hl with
  | 0, _ => rfl
  | 1, _ => rfl
  | 2, _ => rfl
theorem vwC_seto (hh : hd.length = 16) (h : U3 U) {o : Nat} {v : List Int} (e : U[o]? = some v) {j : Nat} (hj3 : j < 3) (x : Int) : (vwC hd L N U).set (19 + (o * 3 + j)) (.int .u8 x) = vwC hd L N (U.set o (v.set j x)) := by
  unfold vwC
  rw [List.set_append_right _ _ (by omega), List.set_append_right _ _ (by simp; omega), hh]
  simp only [List.length_cons, List.length_nil]
  rw [show 19 + (o * 3 + j) - 16 - 3 = o * 3 + j by omega, ucells_set1 h e hj3 x]
theorem vwC_seto3 (hh : hd.length = 16) (h : U3 U) {o : Nat} (ho : o < 3) (a b c : Int) : (((vwC hd L N U).set (19 + o * 3) (.int .u8 a)).set (19 + o * 3 + 1) (.int .u8 b)).set (19 + o * 3 + 2) (.int .u8 c) = vwC hd L N (U.set o [a, b, c]) := by
  have hlt : o < U.length := by rw [h.1]; exact ho
  obtain ⟨v, hv⟩ : ∃ v, U[o]? = some v := ⟨_, List.getElem?_eq_getElem hlt⟩
  have hl := h.2 v (List.mem_of_getElem? hv)
  obtain ⟨x, y, z, rfl⟩ := len3 hl
  have e0 := vwC_seto (L := L) (N := N) hh h hv (j := 0) (by decide) a
  rw [Nat.add_zero] at e0
  rw [e0]
  have h1 : U3 (U.set o ([x, y, z].set 0 a)) := h.set rfl
  have e1 := vwC_seto (L := L) (N := N) hh h1 (List.getElem?_set_self hlt) (j := 1) (by decide) b
  rw [show 19 + (o * 3 + 1) = 19 + o * 3 + 1 by omega] at e1
  rw [e1]
  have h2 : U3 ((U.set o ([x, y, z].set 0 a)).set o (([x, y, z].set 0 a).set 1 b)) := h1.set rfl
  have e2 := vwC_seto (L := L) (N := N) hh h2 (List.getElem?_set_self (by rw [List.length_set]; exact hlt)) (j := 2) (by decide) c
  rw [show 19 + (o * 3 + 2) = 19 + o * 3 + 2 by omega] at e2
  rw [e2, List.set_set, List.set_set]
  rfl
end
/-- The state s of program p lies at block g. -/
structure VwAt (w : World) (g : Nat) (p : Prg) (s : Vs) : Prop where
  at_ : ∃ a cap L, w.heap[g]? = some (.cells (vwC (valC a p.length cap s.st) L (fun l => (row5 s l).length) (padV s.view)).toArray 112 (0, 0)) ∧ RdP w a p ∧ ∀ l, l < 3 → Rd w (L l).1 (wcells (row5 s l)) ∧ (row5 s l).length ≤ (L l).2
  good : Good5 p s
theorem VwAt.below {w w' : World} {g : Nat} {p : Prg} {s : Vs} (h : VwAt w g p s) (hb : Below w.heap.size w w') : VwAt w' g p s := by
  obtain ⟨⟨a, cap, L, h1, h2, h3⟩, hg⟩ := h
  exact ⟨⟨a, cap, L, by rw [hb.block g (Array.getElem?_eq_some_iff.1 h1).1]; exact h1, h2.below hb, fun l hl => ⟨(h3 l hl).1.below hb, (h3 l hl).2⟩⟩, hg⟩
theorem VwAt.v {w : World} {g : Nat} {p : Prg} {s : Vs} (h : VwAt w g p s) : VAt w g p s.st := by
  obtain ⟨⟨a, cap, L, h1, h2, h3⟩, hg⟩ := h
  exact ⟨⟨a, cap, _, _, h1, h2⟩, hg.good⟩
theorem Good5.u3 {p : Prg} {s : Vs} (h : Good5 p s) (hv : Shape p) : U3 (padV s.view) := by
  have h3 := hv.len
  have h1 := h.vl
  refine ⟨padV_len (by omega), fun v hv => ?_⟩
  unfold padV at hv
  rcases List.mem_append.1 hv with e | e
  · exact (h.vok v e).1
  · rw [(List.mem_replicate.1 e).2]; rfl
theorem Good5.v3 {p : Prg} {s : Vs} (h : Good5 p s) {l : Nat} (hl : l < 3) : V3 (row5 s l) := fun m hm => (h.mok _ (List.mem_of_getElem? (h.row hl)) m hm).2.1
/-- The numbers of a view. -/
theorem VwOk.bd {p : Prg} {s : Vs} {v : List Int} (h : VwOk s v) (hg : Good5 p s) (hv : Shape p) : ∀ x ∈ v, 0 ≤ x ∧ x ≤ 24 := fun x hx => by
  obtain ⟨l, hl⟩ := List.mem_iff_getElem?.1 hx
  have hl3 : l < 3 := by have := (List.getElem?_eq_some_iff.1 hl).1; have := h.1; omega
  obtain ⟨k, h1, h2⟩ := h.2 l hl3
  have := hg.rowlen hv hl3
  rw [hl] at h1
  have := Option.some.inj h1
  omega
/-- Copy, whatever the size of an element, into a row that is known whole. -/
theorem run_copy_rowN {P : Program} (w : World) (dT sT ty elem : TypeId) (g o dLen dCap : Nat) (a : Addr) (sLen sCap sz : Nat) (cur : Array Value) (t : TypeId) (cs : List Value)
    (hu : P.underlying dT = some (.slice elem)) (hs : (P.info? elem).map (·.size) = some sz)
    (hg : w.heap[g]? = some (.cells cur t (0, 0))) (hn : cs.length = Nat.min sLen dLen * sz)
    (hsrc : ∀ j v, cs[j]? = some v → w.cell? (a.add j) = some v) (hfit : o + cs.length ≤ cur.size) (h1 : ∀ v ∈ cs, v.oneCell' = true) :
    (Builtin.copy_ #[dT, sT] ty #[.slice (some ⟨g, o, none⟩) dLen dCap, .slice (some a) sLen sCap]).run P w =
      .ok (goInt (Nat.min sLen dLen)) (w.setRow g (cur.toList.take o ++ cs ++ cur.toList.drop (o + cs.length)).toArray) := by
  have hl := run_loadCells_list (P := P) w a cs hsrc
  have hst := run_storeCells_at P g o t cs 0 cur w hg (by simpa using hfit) h1
  cases hq : P.info? elem with
  | none => simp [hq] at hs
  | some i =>
    have hi : i.size = sz := by simpa [hq] using hs
    simp [Builtin.copy_, run_underlying hu, Builtin.lenOf, Builtin.firstCells, sizeOf, typeInfo, hq, hi, ← hn, hl, hst]
end Go.Proofs.Ythlmfjoiicnomaa
