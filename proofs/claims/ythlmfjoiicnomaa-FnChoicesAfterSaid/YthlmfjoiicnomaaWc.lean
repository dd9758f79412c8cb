/-
  PROVED HERE: words for the program's states with views; copy of rows, whatever the size of an element. what (view).moved and (view).joined do. what newViews does; cells of a block that is known as a list. CONDITIONS: as each theorem states.
-/
import Derived.Test.YthlmfjoiicnomaaImh
import Derived.Test.YthlmfjoiicnomaaVm
import Derived.Deep.MidRow
namespace Go.Proofs.Ythlmfjoiicnomaa
open Go.RowKit
set_option linter.unusedVariables false
set_option linter.unusedSimpArgs false

/-- The cells of a write, of a row of writes. -/
def wcell (m : Ms) : List Value := .int .u8 m.val :: .bool m.lock :: b8s m.view
def wcells (r : List Ms) : List Value := r.flatMap wcell
/-- The views of writes are three places each. -/
def V3 (r : List Ms) : Prop := ∀ m ∈ r, m.view.length = 3
theorem V3.tl {m : Ms} {r : List Ms} (h : V3 (m :: r)) : V3 r := fun x hx => h x (List.mem_cons_of_mem _ hx)
theorem V3.hd {m : Ms} {r : List Ms} (h : V3 (m :: r)) : (wcell m).length = 5 := by simp [wcell, h m List.mem_cons_self]
theorem len3 {v : List Int} (h : v.length = 3) : ∃ a b c, v = [a, b, c] := by
  match v, h with
  | [a, b, c], _ => exact ⟨a, b, c, rfl⟩
theorem wcells_len : ∀ {r : List Ms}, V3 r → (wcells r).length = r.length * 5
  | [], _ => rfl
  | m :: r, h => by
    unfold wcells
    rw [List.flatMap_cons, List.length_append, h.hd]
    have := wcells_len h.tl
    unfold wcells at this
    rw [this, List.length_cons]; omega
theorem wcells_cons (m : Ms) (r : List Ms) : wcells (m :: r) = wcell m ++ wcells r := rfl
theorem wcells_append (r r' : List Ms) : wcells (r ++ r') = wcells r ++ wcells r' := List.flatMap_append
theorem wcells_get : ∀ {r : List Ms} {k : Nat} {m : Ms} {j : Nat}, V3 r → r[k]? = some m → j < 5 → (wcells r)[k * 5 + j]? = (wcell m)[j]?
  | m' :: r, 0, m, j, h, e, hj => by
    simp at e
    subst e
    rw [wcells_cons, List.getElem?_append_left (by rw [h.hd]; omega)]
    congr 1; omega
  | m' :: r, k + 1, m, j, h, e, hj => by
    rw [wcells_cons, List.getElem?_append_right (by rw [h.hd]; omega), h.hd, show (k + 1) * 5 + j - 5 = k * 5 + j by omega]
    exact wcells_get h.tl (by simpa using e) hj
theorem wcells_set : ∀ {r : List Ms} {k : Nat} {m m' : Ms} {j : Nat} {v : Value}, V3 r → r[k]? = some m → j < 5 → (wcell m).set j v = wcell m' → (wcells r).set (k * 5 + j) v = wcells (r.set k m')
  | x :: r, 0, m, m', j, v, h, e, hj, hs => by
    simp at e
    subst e
    rw [wcells_cons, List.set_append_left _ _ (by rw [h.hd]; omega), show 0 * 5 + j = j by omega, hs]
    rfl
  | x :: r, k + 1, m, m', j, v, h, e, hj, hs => by
    rw [wcells_cons, List.set_append_right _ _ (by rw [h.hd]; omega), h.hd, show (k + 1) * 5 + j - 5 = k * 5 + j by omega, wcells_set h.tl (by simpa using e) hj hs]
    rfl
theorem V3.set {r : List Ms} (h : V3 r) {k : Nat} {m : Ms} (hm : m.view.length = 3) : V3 (r.set k m) := fun x hx => by
  rcases List.mem_or_eq_of_mem_set hx with e | rfl
  · exact h x e
  · exact hm
/-- Three cells of a write turn: its view. -/
theorem wcells_setv {r : List Ms} {k : Nat} {m : Ms} {a b c : Int} (h : V3 r) (e : r[k]? = some m) : (((wcells r).set (k * 5 + 2) (.int .u8 a)).set (k * 5 + 3) (.int .u8 b)).set (k * 5 + 4) (.int .u8 c) = wcells (r.set k { m with view := [a, b, c] }) := by
  obtain ⟨x, y, z, hv⟩ := len3 (h m (List.mem_of_getElem? e))
  obtain ⟨val, lock, view⟩ := m
  have hv : view = [x, y, z] := hv
  subst hv
  have hk := (List.getElem?_eq_some_iff.1 e).1
  rw [wcells_set (m' := ⟨val, lock, [a, y, z]⟩) h e (by decide) rfl]
  rw [wcells_set (m := ⟨val, lock, [a, y, z]⟩) (m' := ⟨val, lock, [a, b, z]⟩) (h.set rfl) (List.getElem?_set_self hk) (by decide) rfl]
  rw [wcells_set (m := ⟨val, lock, [a, b, z]⟩) (m' := ⟨val, lock, [a, b, c]⟩) ((h.set rfl).set rfl) (List.getElem?_set_self (by rw [List.length_set]; exact hk)) (by decide) rfl]
  rw [List.set_set, List.set_set]
theorem wcells_take : ∀ {r : List Ms} (k : Nat), V3 r → (wcells r).take (k * 5) = wcells (r.take k)
  | [], k, _ => by simp [wcells]
  | m :: r, 0, _ => by simp [wcells]
  | m :: r, k + 1, h => by
    rw [wcells_cons, List.take_append, h.hd, List.take_succ_cons, wcells_cons, show (k + 1) * 5 - 5 = k * 5 by omega, wcells_take k h.tl, List.take_of_length_le (by rw [h.hd]; omega)]
theorem wcells_drop : ∀ {r : List Ms} (k : Nat), V3 r → (wcells r).drop (k * 5) = wcells (r.drop k)
  | [], k, _ => by simp [wcells]
  | m :: r, 0, _ => by simp
  | m :: r, k + 1, h => by
    rw [wcells_cons, List.drop_append, h.hd, List.drop_succ_cons, show (k + 1) * 5 - 5 = k * 5 by omega, wcells_drop k h.tl, List.drop_of_length_le (by rw [h.hd]; omega), List.nil_append]
theorem wcells_one : ∀ (r : List Ms), ∀ u ∈ wcells r, u.oneCell' = true := by
  intro r u hu
  obtain ⟨m, _, hm⟩ := List.mem_flatMap.1 hu
  unfold wcell at hm
  rcases List.mem_cons.1 hm with rfl | hm
  · rfl
  rcases List.mem_cons.1 hm with rfl | hm
  · rfl
  obtain ⟨x, _, rfl⟩ := List.mem_map.1 hm
  rfl
/-- What all threads see, with threads that are not there. -/
def padV (V : List (List Int)) : List (List Int) := V ++ List.replicate (3 - V.length) [0, 0, 0]
theorem padV_len {V : List (List Int)} (h : V.length ≤ 3) : (padV V).length = 3 := by simp [padV]; omega
theorem padV_get {V : List (List Int)} {t : Nat} {v : List Int} (h : V[t]? = some v) : (padV V)[t]? = some v := by
  unfold padV
  rw [List.getElem?_append_left (List.getElem?_eq_some_iff.1 h).1]
  exact h
theorem padV_set {V : List (List Int)} {t : Nat} (v : List Int) (h : t < V.length) : (padV V).set t v = padV (V.set t v) := by
  unfold padV
  rw [List.set_append_left _ _ h, List.length_set]
theorem bump_zero {loc k : Nat} (hk : 1 ≤ k) : bump loc k [0, 0, 0] = [0, 0, 0] := by
  unfold bump
  rw [if_neg]
  have : ([0, 0, 0] : List Int).getD loc 0 = 0 := by
    match loc with
    | 0 => rfl
    | 1 => rfl
    | 2 => rfl
    | n + 3 => rfl
  rw [this]; omega
theorem padV_bump {V : List (List Int)} {loc k : Nat} (hk : 1 ≤ k) : (padV V).map (bump loc k) = padV (V.map (bump loc k)) := by
  unfold padV
  rw [List.map_append, List.map_replicate, bump_zero hk, List.length_map]
def U3 (U : List (List Int)) : Prop := U.length = 3 ∧ ∀ v ∈ U, v.length = 3
theorem U3.set {U : List (List Int)} (h : U3 U) {t : Nat} {v : List Int} (hv : v.length = 3) : U3 (U.set t v) := ⟨by rw [List.length_set]; exact h.1, fun x hx => by
  rcases List.mem_or_eq_of_mem_set hx with e | rfl
  · exact h.2 x e
  · exact hv⟩
theorem ucells_len {U : List (List Int)} (h : U3 U) : (b8s U.flatten).length = 9 := by
  match U, h.1 with
  | [a, b, c], _ => have h1 := h.2 a (by simp); have h2 := h.2 b (by simp); have h3 := h.2 c (by simp); simp [h1, h2, h3]
theorem ucells_get {U : List (List Int)} (h : U3 U) {o : Nat} {v : List Int} (e : U[o]? = some v) {j : Nat} {x : Int} (hj : v[j]? = some x) : (b8s U.flatten)[o * 3 + j]? = some (.int .u8 x) := by
  have hj3 : j < 3 := by have := (List.getElem?_eq_some_iff.1 hj).1; have := h.2 v (List.mem_of_getElem? e); omega
  rw [List.getElem?_map]
  match U, h.1 with
  | [a, b, c], _ =>
    have h1 := h.2 a (by simp); have h2 := h.2 b (by simp); have h3 := h.2 c (by simp)
    obtain ⟨a0, a1, a2, rfl⟩ := len3 h1
    obtain ⟨b0, b1, b2, rfl⟩ := len3 h2
    obtain ⟨c0, c1, c2, rfl⟩ := len3 h3
    match o, e with
    | 0, e => simp at e; subst e; match j, hj3 with | 0, _ => simp at hj; simp [hj] | 1, _ => simp at hj; simp [hj] | 2, _ => simp at hj; simp [hj]
    | 1, e => simp at e; subst e; match j, hj3 with | 0, _ => simp at hj; simp [hj] | 1, _ => simp at hj; simp [hj] | 2, _ => simp at hj; simp [hj]
    | 2, e => simp at e; subst e; match j, hj3 with | 0, _ => simp at hj; simp [hj] | 1, _ => simp at hj; simp [hj] | 2, _ => simp at hj; simp [hj]
    | n + 3, e => simp at e
theorem ucells_set1 {U : List (List Int)} (h : U3 U) {o : Nat} {v : List Int} (e : U[o]? = some v) {j : Nat} (hj3 : j < 3) (x : Int) : (b8s U.flatten).set (o * 3 + j) (.int .u8 x) = b8s (U.set o (v.set j x)).flatten := by
  match U, h.1 with
  | [a, b, c], _ =>
    have h1 := h.2 a (by simp); have h2 := h.2 b (by simp); have h3 := h.2 c (by simp)
    obtain ⟨a0, a1, a2, rfl⟩ := len3 h1
    obtain ⟨b0, b1, b2, rfl⟩ := len3 h2
    obtain ⟨c0, c1, c2, rfl⟩ := len3 h3
    match o, e with
    | 0, e => simp at e; subst e; match j, hj3 with | 0, _ => rfl | 1, _ => rfl | 2, _ => rfl
    | 1, e => simp at e; subst e; match j, hj3 with | 0, _ => rfl | 1, _ => rfl | 2, _ => rfl
    | 2, e => simp at e; subst e; match j, hj3 with | 0, _ => rfl | 1, _ => rfl | 2, _ => rfl
    | n + 3, e => simp at e
theorem ucells_set3 {U : List (List Int)} (h : U3 U) {o : Nat} (ho : o < 3) (a b c : Int) : (((b8s U.flatten).set (o * 3) (.int .u8 a)).set (o * 3 + 1) (.int .u8 b)).set (o * 3 + 2) (.int .u8 c) = b8s (U.set o [a, b, c]).flatten := by
  have hlt : o < U.length := by rw [h.1]; exact ho
  obtain ⟨v, hv⟩ : ∃ v, U[o]? = some v := ⟨_, List.getElem?_eq_getElem hlt⟩
  have hl := h.2 v (List.mem_of_getElem? hv)
  obtain ⟨x, y, z, rfl⟩ := len3 hl
  have e0 := ucells_set1 h hv (j := 0) (by decide) a
  rw [Nat.add_zero] at e0
  rw [e0]
  have h1 : U3 (U.set o ([x, y, z].set 0 a)) := h.set rfl
  rw [ucells_set1 h1 (List.getElem?_set_self hlt) (j := 1) (by decide) b]
  have h2 : U3 ((U.set o ([x, y, z].set 0 a)).set o (([x, y, z].set 0 a).set 1 b)) := h1.set rfl
  rw [ucells_set1 h2 (List.getElem?_set_self (by rw [List.length_set]; exact hlt)) (j := 2) (by decide) c]
  rw [List.set_set, List.set_set]
  rfl
/-- The cells of a state with views. -/
def vwC (hd : List Value) (L : Nat → Option Addr × Nat) (N : Nat → Nat) (U : List (List Int)) : List Value := hd ++ ([.slice (L 0).1 (N 0) (L 0).2, .slice (L 1).1 (N 1) (L 1).2, .slice (L 2).1 (N 2) (L 2).2] ++ b8s U.flatten)
section
variable {hd : List Value} {L : Nat → Option Addr × Nat} {N : Nat → Nat} {U : List (List Int)}
theorem vwC_hd (hh : hd.length = 16) {i : Nat} {v : Value} (h : hd[i]? = some v) : (vwC hd L N U)[i]? = some v := by
  unfold vwC
  rw [List.getElem?_append_left (List.getElem?_eq_some_iff.1 h).1]
  exact h
theorem vwC_l (hh : hd.length = 16) {l : Nat} (hl : l < 3) : (vwC hd L N U)[16 + l]? = some (.slice (L l).1 (N l) (L l).2) := by
  unfold vwC
  rw [List.getElem?_append_right (by omega), hh, show 16 + l - 16 = l by omega]
  match l, hl with
  | 0, _ => rfl
  | 1, _ => rfl
  | 2, _ => rfl
theorem vwC_o (hh : hd.length = 16) (h : U3 U) {o : Nat} {v : List Int} (e : U[o]? = some v) {j : Nat} {x : Int} (hj : v[j]? = some x) : (vwC hd L N U)[19 + (o * 3 + j)]? = some (.int .u8 x) := by
  unfold vwC
  rw [List.getElem?_append_right (by omega), List.getElem?_append_right (by simp; omega), hh]
  simp only [List.length_cons, List.length_nil]
  rw [show 19 + (o * 3 + j) - 16 - 3 = o * 3 + j by omega]
  exact ucells_get h e hj
theorem vwC_len (hh : hd.length = 16) (h : U3 U) : (vwC hd L N U).length = 28 := by
  unfold vwC
  rw [List.length_append, List.length_append, hh, ucells_len h]; rfl
theorem vwC_sethd (hh : hd.length = 16) {i : Nat} (hi : i < 16) (v : Value) : (vwC hd L N U).set i v = vwC (hd.set i v) L N U := by
  unfold vwC
  rw [List.set_append_left _ _ (by omega)]
def setL5 (L : Nat → Option Addr × Nat) (l : Nat) (r : Option Addr × Nat) : Nat → Option Addr × Nat := fun l' => if l' = l then r else L l'
def setN5 (N : Nat → Nat) (l : Nat) (n : Nat) : Nat → Nat := fun l' => if l' = l then n else N l'
theorem vwC_setl (hh : hd.length = 16) {l : Nat} (hl : l < 3) (a : Option Addr) (n c : Nat) : (vwC hd L N U).set (16 + l) (.slice a n c) = vwC hd (setL5 L l (a, c)) (setN5 N l n) U := by
  unfold vwC
  rw [List.set_append_right _ _ (by omega), hh, show 16 + l - 16 = l by omega]
  match l, hl with
  | 0, _ => rfl
  | 1, _ => rfl
  | 2, _ => rfl
theorem vwC_seto (hh : hd.length = 16) (h : U3 U) {o : Nat} {v : List Int} (e : U[o]? = some v) {j : Nat} (hj3 : j < 3) (x : Int) : (vwC hd L N U).set (19 + (o * 3 + j)) (.int .u8 x) = vwC hd L N (U.set o (v.set j x)) := by
  unfold vwC
  rw [List.set_append_right _ _ (by omega), List.set_append_right _ _ (by simp; omega), hh]
  simp only [List.length_cons, List.length_nil]
  rw [show 19 + (o * 3 + j) - 16 - 3 = o * 3 + j by omega, ucells_set1 h e hj3 x]
theorem vwC_seto3 (hh : hd.length = 16) (h : U3 U) {o : Nat} (ho : o < 3) (a b c : Int) : (((vwC hd L N U).set (19 + o * 3) (.int .u8 a)).set (19 + o * 3 + 1) (.int .u8 b)).set (19 + o * 3 + 2) (.int .u8 c) = vwC hd L N (U.set o [a, b, c]) := by
  have hlt : o < U.length := by rw [h.1]; exact ho
  obtain ⟨v, hv⟩ : ∃ v, U[o]? = some v := ⟨_, List.getElem?_eq_getElem hlt⟩
  have hl := h.2 v (List.mem_of_getElem? hv)
  obtain ⟨x, y, z, rfl⟩ := len3 hl
  have e0 := vwC_seto (L := L) (N := N) hh h hv (j := 0) (by decide) a
  rw [Nat.add_zero] at e0
  rw [e0]
  have h1 : U3 (U.set o ([x, y, z].set 0 a)) := h.set rfl
  have e1 := vwC_seto (L := L) (N := N) hh h1 (List.getElem?_set_self hlt) (j := 1) (by decide) b
  rw [show 19 + (o * 3 + 1) = 19 + o * 3 + 1 by omega] at e1
  rw [e1]
  have h2 : U3 ((U.set o ([x, y, z].set 0 a)).set o (([x, y, z].set 0 a).set 1 b)) := h1.set rfl
  have e2 := vwC_seto (L := L) (N := N) hh h2 (List.getElem?_set_self (by rw [List.length_set]; exact hlt)) (j := 2) (by decide) c
  rw [show 19 + (o * 3 + 2) = 19 + o * 3 + 2 by omega] at e2
  rw [e2, List.set_set, List.set_set]
  rfl
end
/-- The state s of program p lies at block g. -/
structure VwAt (w : World) (g : Nat) (p : Prg) (s : Vs) : Prop where
  at_ : ∃ a cap L, w.heap[g]? = some (.cells (vwC (valC a p.length cap s.st) L (fun l => (row5 s l).length) (padV s.view)).toArray 112 (0, 0)) ∧ RdP w a p ∧ ∀ l, l < 3 → Rd w (L l).1 (wcells (row5 s l)) ∧ (row5 s l).length ≤ (L l).2
  good : Good5 p s
theorem VwAt.below {w w' : World} {g : Nat} {p : Prg} {s : Vs} (h : VwAt w g p s) (hb : Below w.heap.size w w') : VwAt w' g p s := by
  obtain ⟨⟨a, cap, L, h1, h2, h3⟩, hg⟩ := h
  exact ⟨⟨a, cap, L, by rw [hb.block g (Array.getElem?_eq_some_iff.1 h1).1]; exact h1, h2.below hb, fun l hl => ⟨(h3 l hl).1.below hb, (h3 l hl).2⟩⟩, hg⟩
theorem VwAt.v {w : World} {g : Nat} {p : Prg} {s : Vs} (h : VwAt w g p s) : VAt w g p s.st := by
  obtain ⟨⟨a, cap, L, h1, h2, h3⟩, hg⟩ := h
  exact ⟨⟨a, cap, _, _, h1, h2⟩, hg.good⟩
theorem Good5.u3 {p : Prg} {s : Vs} (h : Good5 p s) (hv : Shape p) : U3 (padV s.view) := by
  have h3 := hv.len
  have h1 := h.vl
  refine ⟨padV_len (by omega), fun v hv => ?_⟩
  unfold padV at hv
  rcases List.mem_append.1 hv with e | e
  · exact (h.vok v e).1
  · rw [(List.mem_replicate.1 e).2]; rfl
theorem Good5.v3 {p : Prg} {s : Vs} (h : Good5 p s) {l : Nat} (hl : l < 3) : V3 (row5 s l) := fun m hm => (h.mok _ (List.mem_of_getElem? (h.row hl)) m hm).2.1
/-- The numbers of a view. -/
theorem VwOk.bd {p : Prg} {s : Vs} {v : List Int} (h : VwOk s v) (hg : Good5 p s) (hv : Shape p) : ∀ x ∈ v, 0 ≤ x ∧ x ≤ 24 := fun x hx => by
  obtain ⟨l, hl⟩ := List.mem_iff_getElem?.1 hx
  have hl3 : l < 3 := by have := (List.getElem?_eq_some_iff.1 hl).1; have := h.1; omega
  obtain ⟨k, h1, h2⟩ := h.2 l hl3
  have := hg.rowlen hv hl3
  rw [hl] at h1
  have := Option.some.inj h1
  omega
/-- Copy, whatever the size of an element, into a row that is known whole. -/
theorem run_copy_rowN {P : Program} (w : World) (dT sT ty elem : TypeId) (g o dLen dCap : Nat) (a : Addr) (sLen sCap sz : Nat) (cur : Array Value) (t : TypeId) (cs : List Value)
    (hu : P.underlying dT = some (.slice elem)) (hs : (P.info? elem).map (·.size) = some sz)
    (hg : w.heap[g]? = some (.cells cur t (0, 0))) (hn : cs.length = Nat.min sLen dLen * sz)
    (hsrc : ∀ j v, cs[j]? = some v → w.cell? (a.add j) = some v) (hfit : o + cs.length ≤ cur.size) (h1 : ∀ v ∈ cs, v.oneCell' = true) :
    (Builtin.copy_ #[dT, sT] ty #[.slice (some ⟨g, o, none⟩) dLen dCap, .slice (some a) sLen sCap]).run P w =
      .ok (goInt (Nat.min sLen dLen)) (w.setRow g (cur.toList.take o ++ cs ++ cur.toList.drop (o + cs.length)).toArray) := by
  have hl := run_loadCells_list (P := P) w a cs hsrc
  have hst := run_storeCells_at P g o t cs 0 cur w hg (by simpa using hfit) h1
  cases hq : P.info? elem with
  | none => simp [hq] at hs
  | some i =>
    have hi : i.size = sz := by simpa [hq] using hs
    simp [Builtin.copy_, run_underlying hu, Builtin.lenOf, Builtin.firstCells, sizeOf, typeInfo, hq, hi, ← hn, hl, hst]
end Go.Proofs.Ythlmfjoiicnomaa
namespace Go.Proofs.Ythlmfjoiicnomaa
open Go.RowKit
set_option linter.unusedVariables false
set_option linter.unusedSimpArgs false

theorem heap_two (w : World) (o1 o2 : Obj) : ((w.alloc o1).alloc o2).heap[w.heap.size + 1]? = some o2 := by
  have := heap_alloc_new (w.alloc o1) o2
  rwa [World.size_alloc] at this
theorem below_two (w : World) (o1 o2 : Obj) : Below w.heap.size w ((w.alloc o1).alloc o2) := ((Below.refl _ _).alloc (Nat.le_refl _) _).alloc (by simp) _
set_option maxRecDepth 100000 in
set_option maxHeartbeats 1600000 in
theorem moved0_c (w : World) (x0 x1 x2 : Int) (k : Nat) (hk : k ≤ 200) (hb : 0 ≤ x0 ∧ x0 ≤ 100) :
    Calls Try.prog 143 #[.agg #[.int .u8 x0, .int .u8 x1, .int .u8 x2], .int .i64 0, .int .u8 k] w fun e w' => e = .returned (.agg (b8s (bump 0 k [x0, x1, x2])).toArray) ∧ Below w.heap.size w w' := by
  by_cases hge : (k : Int) ≤ x0
  · have HB := hid (show bump 0 k [x0, x1, x2] = [x0 + 1, x1, x2] by unfold bump; rw [if_pos (by exact hge)]; rfl)
    rw [HB.out]
    have hw : IntKind.u8.wrap (x0 + 1) = x0 + 1 := IntWalk.u8_in _ (by omega)
    have d0 : decide ((k : Int) ≤ x0) = true := decide_eq_true hge
    go_enter Try.func143, Try.ntmps143
    go_wp2_with fail
    refine bodyPost_ret (results_cell_row rfl _ _ (w.heap.size + 1) 109 #[.int .u8 (x0 + 1), .int .u8 (x1), .int .u8 (x2)] (0, 0) _ rfl (heap_two _ _ _) Try.underlying109 rfl (by kernel_rfl)) rfl ⟨rfl, ?_⟩
    exact below_two _ _ _
  · have HB := hid (show bump 0 k [x0, x1, x2] = [x0, x1, x2] by unfold bump; rw [if_neg (by exact hge)])
    rw [HB.out]
    have d0 : decide ((k : Int) ≤ x0) = false := decide_eq_false hge
    go_enter Try.func143, Try.ntmps143
    go_wp2_with fail
    refine bodyPost_ret (results_cell_row rfl _ _ (w.heap.size + 1) 109 #[.int .u8 (x0), .int .u8 (x1), .int .u8 (x2)] (0, 0) _ rfl (heap_two _ _ _) Try.underlying109 rfl (by kernel_rfl)) rfl ⟨rfl, ?_⟩
    exact below_two _ _ _
set_option maxRecDepth 100000 in
set_option maxHeartbeats 1600000 in
theorem moved1_c (w : World) (x0 x1 x2 : Int) (k : Nat) (hk : k ≤ 200) (hb : 0 ≤ x1 ∧ x1 ≤ 100) :
    Calls Try.prog 143 #[.agg #[.int .u8 x0, .int .u8 x1, .int .u8 x2], .int .i64 1, .int .u8 k] w fun e w' => e = .returned (.agg (b8s (bump 1 k [x0, x1, x2])).toArray) ∧ Below w.heap.size w w' := by
  by_cases hge : (k : Int) ≤ x1
  · have HB := hid (show bump 1 k [x0, x1, x2] = [x0, x1 + 1, x2] by unfold bump; rw [if_pos (by exact hge)]; rfl)
    rw [HB.out]
    have hw : IntKind.u8.wrap (x1 + 1) = x1 + 1 := IntWalk.u8_in _ (by omega)
    have d0 : decide ((k : Int) ≤ x1) = true := decide_eq_true hge
    go_enter Try.func143, Try.ntmps143
    go_wp2_with fail
    refine bodyPost_ret (results_cell_row rfl _ _ (w.heap.size + 1) 109 #[.int .u8 (x0), .int .u8 (x1 + 1), .int .u8 (x2)] (0, 0) _ rfl (heap_two _ _ _) Try.underlying109 rfl (by kernel_rfl)) rfl ⟨rfl, ?_⟩
    exact below_two _ _ _
  · have HB := hid (show bump 1 k [x0, x1, x2] = [x0, x1, x2] by unfold bump; rw [if_neg (by exact hge)])
    rw [HB.out]
    have d0 : decide ((k : Int) ≤ x1) = false := decide_eq_false hge
    go_enter Try.func143, Try.ntmps143
    go_wp2_with fail
    refine bodyPost_ret (results_cell_row rfl _ _ (w.heap.size + 1) 109 #[.int .u8 (x0), .int .u8 (x1), .int .u8 (x2)] (0, 0) _ rfl (heap_two _ _ _) Try.underlying109 rfl (by kernel_rfl)) rfl ⟨rfl, ?_⟩
    exact below_two _ _ _
set_option maxRecDepth 100000 in
set_option maxHeartbeats 1600000 in
theorem moved2_c (w : World) (x0 x1 x2 : Int) (k : Nat) (hk : k ≤ 200) (hb : 0 ≤ x2 ∧ x2 ≤ 100) :
    Calls Try.prog 143 #[.agg #[.int .u8 x0, .int .u8 x1, .int .u8 x2], .int .i64 2, .int .u8 k] w fun e w' => e = .returned (.agg (b8s (bump 2 k [x0, x1, x2])).toArray) ∧ Below w.heap.size w w' := by
  by_cases hge : (k : Int) ≤ x2
  · have HB := hid (show bump 2 k [x0, x1, x2] = [x0, x1, x2 + 1] by unfold bump; rw [if_pos (by exact hge)]; rfl)
    rw [HB.out]
    have hw : IntKind.u8.wrap (x2 + 1) = x2 + 1 := IntWalk.u8_in _ (by omega)
    have d0 : decide ((k : Int) ≤ x2) = true := decide_eq_true hge
    go_enter Try.func143, Try.ntmps143
    go_wp2_with fail
    refine bodyPost_ret (results_cell_row rfl _ _ (w.heap.size + 1) 109 #[.int .u8 (x0), .int .u8 (x1), .int .u8 (x2 + 1)] (0, 0) _ rfl (heap_two _ _ _) Try.underlying109 rfl (by kernel_rfl)) rfl ⟨rfl, ?_⟩
    exact below_two _ _ _
  · have HB := hid (show bump 2 k [x0, x1, x2] = [x0, x1, x2] by unfold bump; rw [if_neg (by exact hge)])
    rw [HB.out]
    have d0 : decide ((k : Int) ≤ x2) = false := decide_eq_false hge
    go_enter Try.func143, Try.ntmps143
    go_wp2_with fail
    refine bodyPost_ret (results_cell_row rfl _ _ (w.heap.size + 1) 109 #[.int .u8 (x0), .int .u8 (x1), .int .u8 (x2)] (0, 0) _ rfl (heap_two _ _ _) Try.underlying109 rfl (by kernel_rfl)) rfl ⟨rfl, ?_⟩
    exact below_two _ _ _
theorem moved_c (w : World) (v : List Int) (loc k : Nat) (hl : loc < 3) (hv : v.length = 3) (hk : k ≤ 200) (hb : ∀ x ∈ v, 0 ≤ x ∧ x ≤ 100) :
    Calls Try.prog 143 #[.agg (b8s v).toArray, .int .i64 loc, .int .u8 k] w fun e w' => e = .returned (.agg (b8s (bump loc k v)).toArray) ∧ Below w.heap.size w w' := by
  obtain ⟨x0, x1, x2, rfl⟩ := len3 hv
  match loc, hl with
  | 0, _ => exact moved0_c w x0 x1 x2 k hk (hb x0 (by simp))
  | 1, _ => exact moved1_c w x0 x1 x2 k hk (hb x1 (by simp))
  | 2, _ => exact moved2_c w x0 x1 x2 k hk (hb x2 (by simp))
def jv (k j : Nat) (x y : Int) : Int := if j < k then max x y else x
set_option maxRecDepth 100000 in
set_option maxHeartbeats 1600000 in
theorem joined3_c (w : World) (x0 x1 x2 y0 y1 y2 : Int) (hx : ∀ x ∈ [x0, x1, x2], 0 ≤ x ∧ x ≤ 100) (hy : ∀ x ∈ [y0, y1, y2], 0 ≤ x ∧ x ≤ 100) :
    Calls Try.prog 137 #[.agg #[.int .u8 x0, .int .u8 x1, .int .u8 x2], .agg #[.int .u8 y0, .int .u8 y1, .int .u8 y2]] w fun e w' => e = .returned (.agg (b8s (join5 [x0, x1, x2] [y0, y1, y2])).toArray) ∧ Below w.heap.size w w' := by
  have HJ := hid (show join5 [x0, x1, x2] [y0, y1, y2] = [max x0 y0, max x1 y1, max x2 y2] from rfl)
  rw [HJ.out]
  go_enter Try.func137, Try.ntmps137
  go_wp2_with fail
  obtain ⟨B, hB⟩ : ∃ B, B = w.heap.size := ⟨_, rfl⟩
  obtain ⟨w3, hw3⟩ : ∃ w3, w3 = ((w.alloc (.cells #[.int .u8 x0, .int .u8 x1, .int .u8 x2] 109)).alloc (.cells #[.int .u8 y0, .int .u8 y1, .int .u8 y2] 109)).alloc (.cells #[.int .u8 0, .int .u8 0, .int .u8 0] 109) := ⟨_, rfl⟩
  have HX := hid (show w3.heap[B]? = some (.cells #[.int .u8 x0, .int .u8 x1, .int .u8 x2] 109 (0, 0)) from by rw [hw3, hB, heap_alloc_old _ _ (by simp; omega), heap_alloc_old _ _ (by simp)]; exact heap_alloc_new w _)
  have HY := hid (show w3.heap[B + 1]? = some (.cells #[.int .u8 y0, .int .u8 y1, .int .u8 y2] 109 (0, 0)) from by rw [hw3, hB, heap_alloc_old _ _ (by simp)]; exact heap_two w _ _)
  have HZ := hid (show w3.heap[B + 1 + 1]? = some (.cells #[.int .u8 0, .int .u8 0, .int .u8 0] 109 (0, 0)) from by
    rw [hw3, hB]
    have := heap_alloc_new ((w.alloc (.cells #[.int .u8 x0, .int .u8 x1, .int .u8 x2] 109)).alloc (.cells #[.int .u8 y0, .int .u8 y1, .int .u8 y2] 109)) (.cells #[.int .u8 0, .int .u8 0, .int .u8 0] 109)
    rwa [World.size_alloc, World.size_alloc] at this)
  have HB := hid (show Below w.heap.size w w3 by rw [hw3]; exact (below_two w _ _).alloc (by simp; omega) _)
  rw [← hB, ← hw3]
  rw [← hB] at HB
  have HBW := hid hB
  clear hw3 hB
  go_loopw [5, 6] (fun _ i wx => ∃ k : Nat, k ≤ 3 ∧ i = .int .i64 k ∧ Hid (wx.heap[B]? = some (.cells #[.int .u8 (jv k 0 x0 y0), .int .u8 (jv k 1 x1 y1), .int .u8 (jv k 2 x2 y2)] 109 (0, 0))) ∧ Hid (wx.heap[B + 1]? = some (.cells #[.int .u8 y0, .int .u8 y1, .int .u8 y2] 109 (0, 0))) ∧ Hid (wx.heap[B + 1 + 1]? = some (.cells #[.int .u8 0, .int .u8 0, .int .u8 0] 109 (0, 0))) ∧ Hid (Below B w wx)) (fun _ i _ => 3 - (intOf i).toNat)
  case atStart => exact ⟨0, by omega, rfl, HX, HY, HZ, HB⟩
  case round =>
    clear HX HY HZ HB
    obtain ⟨k, hk, rfl, HX, HY, HZ, HB⟩ := hrel
    have hk4 : k = 0 ∨ k = 1 ∨ k = 2 ∨ k = 3 := by omega
    rcases hk4 with rfl | rfl | rfl | rfl
    · have cx := cell_of_row wr B 0 _ _ _ HX.out
      have cy := cell_of_row wr (B + 1) 0 _ _ _ HY.out
      have fx := frozen_of_row wr B 0 _ _ HX.out
      have hyx : (if jv 0 0 x0 y0 < y0 then y0 else jv 0 0 x0 y0) = jv 1 0 x0 y0 := by simp only [jv]; simp; omega
      go_wp2_with fail
      refine wp_region_mix (by kernel_rfl) (by kernel_rfl) ?_
      go_wp2_with (first | (with_reducible refine wpMix_nil ?_) | (with_reducible refine wpMix_rd rfl rfl (fun K hK => ?_); go_simp; (try go_bits); refine hK _ ?_; clear hK K) | (with_reducible refine wpMix_act (o := ⟨_, .store _ _ _, _, _, _, _⟩) rfl rfl (fun K hK => ?_)))
      refine wpMix_act rfl rfl (fun K hK => ?_)
      go_simp
      refine hK _ _ ?_
      clear hK K
      go_wp2_with (first | (with_reducible refine wpMix_nil ?_) | (with_reducible refine wpMix_rd rfl rfl (fun K hK => ?_); go_simp; (try go_bits); refine hK _ ?_; clear hK K) | (with_reducible refine wpMix_act (o := ⟨_, .store _ _ _, _, _, _, _⟩) rfl rfl (fun K hK => ?_)))
      have HX2 := hid (show (wr.drew.setCell ⟨B, 0, none⟩ (.int .u8 (jv 1 0 x0 y0))).heap[B]? = some (.cells #[.int .u8 (jv 1 0 x0 y0), .int .u8 (jv 1 1 x1 y1), .int .u8 (jv 1 2 x2 y2)] 109 (0, 0)) from (heap_setCell_same wr.drew B 0 _ _ _ HX.out).trans rfl)
      have hkk := Keeps.setCell wr.drew ⟨B, 0, none⟩ (.int .u8 (jv 1 0 x0 y0))
      have hy1 : B + 1 < wr.heap.size := (Array.getElem?_eq_some_iff.1 HY.out).1
      have hz1 : B + 1 + 1 < wr.heap.size := (Array.getElem?_eq_some_iff.1 HZ.out).1
      have HY2 := hid ((hkk.block (B + 1) hy1 (fun e => by have e : B + 1 = B := e; omega)).trans HY.out)
      have HZ2 := hid ((hkk.block (B + 1 + 1) hz1 (fun e => by have e : B + 1 + 1 = B := e; omega)).trans HZ.out)
      have HB2 := hid ((below_drewN 1 HB.out).setCell (p := ⟨B, 0, none⟩) (Nat.le_refl _) (.int .u8 (jv 1 0 x0 y0)))
      clear cx cy fx hkk
      go_roundw
      case rel => exact ⟨1, by omega, by go_num, HX2, HY2, HZ2, HB2⟩
      case measure => simp [intOf]
    · have cx := cell_of_row wr B 1 _ _ _ HX.out
      have cy := cell_of_row wr (B + 1) 1 _ _ _ HY.out
      have fx := frozen_of_row wr B 1 _ _ HX.out
      have hyx : (if jv 1 1 x1 y1 < y1 then y1 else jv 1 1 x1 y1) = jv 2 1 x1 y1 := by simp only [jv]; simp; omega
      go_wp2_with fail
      refine wp_region_mix (by kernel_rfl) (by kernel_rfl) ?_
      go_wp2_with (first | (with_reducible refine wpMix_nil ?_) | (with_reducible refine wpMix_rd rfl rfl (fun K hK => ?_); go_simp; (try go_bits); refine hK _ ?_; clear hK K) | (with_reducible refine wpMix_act (o := ⟨_, .store _ _ _, _, _, _, _⟩) rfl rfl (fun K hK => ?_)))
      refine wpMix_act rfl rfl (fun K hK => ?_)
      go_simp
      refine hK _ _ ?_
      clear hK K
      go_wp2_with (first | (with_reducible refine wpMix_nil ?_) | (with_reducible refine wpMix_rd rfl rfl (fun K hK => ?_); go_simp; (try go_bits); refine hK _ ?_; clear hK K) | (with_reducible refine wpMix_act (o := ⟨_, .store _ _ _, _, _, _, _⟩) rfl rfl (fun K hK => ?_)))
      have HX2 := hid (show (wr.drew.setCell ⟨B, 1, none⟩ (.int .u8 (jv 2 1 x1 y1))).heap[B]? = some (.cells #[.int .u8 (jv 2 0 x0 y0), .int .u8 (jv 2 1 x1 y1), .int .u8 (jv 2 2 x2 y2)] 109 (0, 0)) from (heap_setCell_same wr.drew B 1 _ _ _ HX.out).trans rfl)
      have hkk := Keeps.setCell wr.drew ⟨B, 1, none⟩ (.int .u8 (jv 2 1 x1 y1))
      have hy1 : B + 1 < wr.heap.size := (Array.getElem?_eq_some_iff.1 HY.out).1
      have hz1 : B + 1 + 1 < wr.heap.size := (Array.getElem?_eq_some_iff.1 HZ.out).1
      have HY2 := hid ((hkk.block (B + 1) hy1 (fun e => by have e : B + 1 = B := e; omega)).trans HY.out)
      have HZ2 := hid ((hkk.block (B + 1 + 1) hz1 (fun e => by have e : B + 1 + 1 = B := e; omega)).trans HZ.out)
      have HB2 := hid ((below_drewN 1 HB.out).setCell (p := ⟨B, 1, none⟩) (Nat.le_refl _) (.int .u8 (jv 2 1 x1 y1)))
      clear cx cy fx hkk
      go_roundw
      case rel => exact ⟨2, by omega, by go_num, HX2, HY2, HZ2, HB2⟩
      case measure => simp [intOf]
    · have cx := cell_of_row wr B 2 _ _ _ HX.out
      have cy := cell_of_row wr (B + 1) 2 _ _ _ HY.out
      have fx := frozen_of_row wr B 2 _ _ HX.out
      have hyx : (if jv 2 2 x2 y2 < y2 then y2 else jv 2 2 x2 y2) = jv 3 2 x2 y2 := by simp only [jv]; simp; omega
      go_wp2_with fail
      refine wp_region_mix (by kernel_rfl) (by kernel_rfl) ?_
      go_wp2_with (first | (with_reducible refine wpMix_nil ?_) | (with_reducible refine wpMix_rd rfl rfl (fun K hK => ?_); go_simp; (try go_bits); refine hK _ ?_; clear hK K) | (with_reducible refine wpMix_act (o := ⟨_, .store _ _ _, _, _, _, _⟩) rfl rfl (fun K hK => ?_)))
      refine wpMix_act rfl rfl (fun K hK => ?_)
      go_simp
      refine hK _ _ ?_
      clear hK K
      go_wp2_with (first | (with_reducible refine wpMix_nil ?_) | (with_reducible refine wpMix_rd rfl rfl (fun K hK => ?_); go_simp; (try go_bits); refine hK _ ?_; clear hK K) | (with_reducible refine wpMix_act (o := ⟨_, .store _ _ _, _, _, _, _⟩) rfl rfl (fun K hK => ?_)))
      have HX2 := hid (show (wr.drew.setCell ⟨B, 2, none⟩ (.int .u8 (jv 3 2 x2 y2))).heap[B]? = some (.cells #[.int .u8 (jv 3 0 x0 y0), .int .u8 (jv 3 1 x1 y1), .int .u8 (jv 3 2 x2 y2)] 109 (0, 0)) from (heap_setCell_same wr.drew B 2 _ _ _ HX.out).trans rfl)
      have hkk := Keeps.setCell wr.drew ⟨B, 2, none⟩ (.int .u8 (jv 3 2 x2 y2))
      have hy1 : B + 1 < wr.heap.size := (Array.getElem?_eq_some_iff.1 HY.out).1
      have hz1 : B + 1 + 1 < wr.heap.size := (Array.getElem?_eq_some_iff.1 HZ.out).1
      have HY2 := hid ((hkk.block (B + 1) hy1 (fun e => by have e : B + 1 = B := e; omega)).trans HY.out)
      have HZ2 := hid ((hkk.block (B + 1 + 1) hz1 (fun e => by have e : B + 1 + 1 = B := e; omega)).trans HZ.out)
      have HB2 := hid ((below_drewN 1 HB.out).setCell (p := ⟨B, 2, none⟩) (Nat.le_refl _) (.int .u8 (jv 3 2 x2 y2)))
      clear cx cy fx hkk
      go_roundw
      case rel => exact ⟨3, by omega, by go_num, HX2, HY2, HZ2, HB2⟩
      case measure => simp [intOf]
    · have cx0 := cell_of_row wr B 0 _ _ _ HX.out
      have cx1 := cell_of_row wr B 1 _ _ _ HX.out
      have cx2 := cell_of_row wr B 2 _ _ _ HX.out
      have cz0 := cell_of_row wr (B + 1 + 1) 0 _ _ _ HZ.out
      have cz1 := cell_of_row wr (B + 1 + 1) 1 _ _ _ HZ.out
      have cz2 := cell_of_row wr (B + 1 + 1) 2 _ _ _ HZ.out
      have fz0 := frozen_of_row wr (B + 1 + 1) 0 _ _ HZ.out
      have fz1 := frozen_of_row wr (B + 1 + 1) 1 _ _ HZ.out
      have fz2 := frozen_of_row wr (B + 1 + 1) 2 _ _ HZ.out
      go_wp2_with fail
      have h0 := heap_setCell_same wr (B + 1 + 1) 0 _ _ (.int .u8 (jv 3 0 x0 y0)) HZ.out
      have h1 := heap_setCell_same _ (B + 1 + 1) 1 _ _ (.int .u8 (jv 3 1 x1 y1)) h0
      have h2 := heap_setCell_same _ (B + 1 + 1) 2 _ _ (.int .u8 (jv 3 2 x2 y2)) h1
      have hbs := HB.out.size
      refine bodyPost_ret (results_cell_row rfl _ _ (B + 1 + 1) 109 #[.int .u8 (jv 3 0 x0 y0), .int .u8 (jv 3 1 x1 y1), .int .u8 (jv 3 2 x2 y2)] (0, 0) _ rfl h2 Try.underlying109 rfl (by kernel_rfl)) rfl ⟨rfl, ?_⟩
      rw [← HBW.out]
      exact ((HB.out.setCell (by show B ≤ B + 1 + 1; omega) _).setCell (by show B ≤ B + 1 + 1; omega) _).setCell (by show B ≤ B + 1 + 1; omega) _
theorem joined_c (w : World) (x y : List Int) (hlx : x.length = 3) (hly : y.length = 3) (hx : ∀ v ∈ x, 0 ≤ v ∧ v ≤ 100) (hy : ∀ v ∈ y, 0 ≤ v ∧ v ≤ 100) :
    Calls Try.prog 137 #[.agg (b8s x).toArray, .agg (b8s y).toArray] w fun e w' => e = .returned (.agg (b8s (join5 x y)).toArray) ∧ Below w.heap.size w w' := by
  obtain ⟨x0, x1, x2, rfl⟩ := len3 hlx
  obtain ⟨y0, y1, y2, rfl⟩ := len3 hly
  exact joined3_c w x0 x1 x2 y0 y1 y2 hx hy
end Go.Proofs.Ythlmfjoiicnomaa
namespace Go.Proofs.Ythlmfjoiicnomaa
open Go.RowKit
set_option linter.unusedVariables false
set_option linter.unusedSimpArgs false

theorem heap_setL {w : World} {g : Nat} {C : List Value} {T : TypeId} (h : w.heap[g]? = some (.cells C.toArray T (0, 0))) (j : Nat) (v : Value) : (w.setCell ⟨g, j, none⟩ v).heap[g]? = some (.cells (C.set j v).toArray T (0, 0)) := by
  rw [heap_setCell_same w g j _ _ v h, List.setIfInBounds_toArray]
theorem cell_L {w : World} {g : Nat} {C : List Value} {T : TypeId} (h : w.heap[g]? = some (.cells C.toArray T (0, 0))) {j : Nat} {v : Value} (hj : C[j]? = some v) : w.cell? ⟨g, j, none⟩ = some v := by
  rw [cell_of_row w g j _ _ _ h, List.getElem?_toArray]
  exact hj
theorem padV_start (n : Nat) (h : n ≤ 3) : padV (List.replicate n [0, 0, 0]) = List.replicate 3 [0, 0, 0] := by
  unfold padV
  rw [List.length_replicate, List.replicate_append_replicate]
  congr 1; omega
set_option maxRecDepth 100000 in
set_option maxHeartbeats 1600000 in
theorem newViews_c (w : World) (a : Option Addr) (cap : Nat) (p : Prg) (h : RdP w a p) (hv : Shape p) :
    Calls Try.prog 35 #[.slice a p.length cap] w fun e w' => ∃ g, e = .returned (.iface 102 (.pointer (some ⟨g, 0, none⟩))) ∧ VwAt w' g p (start5 p) ∧ Below w.heap.size w w' := by
  have HP := hid h
  have HG := hid (good_start5 p)
  have HV := hid (valC_start a p.length cap p hv.len 0)
  have HU := hid (padV_start p.length hv.len)
  have HRW := hid (fun l (hl : l < 3) => start_row (p := p) hl)
  have HVW := hid (show (start5 p).view = List.replicate p.length [0, 0, 0] from rfl)
  have HST := hid (show (start5 p).st = start3 p 0 from rfl)
  obtain ⟨n, hn⟩ : ∃ n, n = p.length := ⟨_, rfl⟩
  have HN := hid hn
  rw [← hn] at HV HU HVW ⊢
  clear hn h hv
  go_enter Try.func35, Try.ntmps35
  go_wp2_with fail
  have hst : (w.alloc (.cells #[.slice a n cap, .int .u8 0, .int .u8 0, .int .u8 0, .int .u8 0, .int .u8 0, .int .u8 0, .int .u8 0, .int .u8 0, .int .u8 0, .int .u8 0, .int .u8 0, .int .u8 0, .int .u8 0, .int .u8 0, .int .u8 0, .slice none 0 0, .slice none 0 0, .slice none 0 0, .int .u8 0, .int .u8 0, .int .u8 0, .int .u8 0, .int .u8 0, .int .u8 0, .int .u8 0, .int .u8 0, .int .u8 0] 112)).heap[w.heap.size]? = some (.cells (vwC (valC a n cap (start3 p 0)) (fun _ => (none, 0)) (fun _ => 0) (List.replicate 3 [0, 0, 0])).toArray 112 (0, 0)) := by
    rw [heap_alloc_new w _, HV.out]
    rfl
  have hb : Below w.heap.size w (w.alloc (.cells #[.slice a n cap, .int .u8 0, .int .u8 0, .int .u8 0, .int .u8 0, .int .u8 0, .int .u8 0, .int .u8 0, .int .u8 0, .int .u8 0, .int .u8 0, .int .u8 0, .int .u8 0, .int .u8 0, .int .u8 0, .int .u8 0, .slice none 0 0, .slice none 0 0, .slice none 0 0, .int .u8 0, .int .u8 0, .int .u8 0, .int .u8 0, .int .u8 0, .int .u8 0, .int .u8 0, .int .u8 0, .int .u8 0] 112)) := (Below.refl _ _).alloc (Nat.le_refl _) _
  obtain ⟨g, hg⟩ : ∃ g, g = w.heap.size := ⟨_, rfl⟩
  obtain ⟨w1, hw1⟩ : ∃ w1, w1 = w.alloc (.cells #[.slice a n cap, .int .u8 0, .int .u8 0, .int .u8 0, .int .u8 0, .int .u8 0, .int .u8 0, .int .u8 0, .int .u8 0, .int .u8 0, .int .u8 0, .int .u8 0, .int .u8 0, .int .u8 0, .int .u8 0, .int .u8 0, .slice none 0 0, .slice none 0 0, .slice none 0 0, .int .u8 0, .int .u8 0, .int .u8 0, .int .u8 0, .int .u8 0, .int .u8 0, .int .u8 0, .int .u8 0, .int .u8 0] 112) := ⟨_, rfl⟩
  rw [← hw1, ← hg] at hst hb ⊢
  have HGW := hid hg
  have HST1 := hid hst
  have HB1 := hid hb
  have HHL := hid (show (valC a n cap (start3 p 0)).length = 16 by rw [HV.out]; rfl)
  clear hw1 hg hst hb
  go_loopw [4, 9] (fun _ i wx => ∃ k : Nat, k ≤ 3 ∧ i = .int .i64 k ∧ Hid (∃ (L : Nat → Option Addr × Nat) (N : Nat → Nat), wx.heap[g]? = some (.cells (vwC (valC a n cap (start3 p 0)) L N (List.replicate 3 [0, 0, 0])).toArray 112 (0, 0)) ∧ ∀ l, l < k → N l = 1 ∧ Rd wx (L l).1 (wcells [msZ]) ∧ 1 ≤ (L l).2 ∧ ∀ b, blk (L l).1 = some b → g < b) ∧ Hid (Below g w wx)) (fun _ i _ => 3 - (intOf i).toNat)
  case atStart => exact ⟨0, by omega, rfl, hid ⟨_, _, HST1.out, fun l hl => by omega⟩, HB1⟩
  case round =>
    clear HST1 HB1
    obtain ⟨k, hk, rfl, HS, HB⟩ := hrel
    obtain ⟨L, N, hgr, hrow⟩ := HS.out
    have HG8 := hid hgr
    have HROW := hid hrow
    have hgl : g < wr.heap.size := (Array.getElem?_eq_some_iff.1 hgr).1
    clear HS hgr hrow
    by_cases hk3 : k < 3
    · have hk3' : (k : Int) < 3 := by omega
      have c16 := cell_L HG8.out (vwC_l (L := L) (N := N) (U := List.replicate 3 [0, 0, 0]) HHL.out hk3)
      have f16 := frozen_of_row wr g (16 + k) _ _ HG8.out
      go_wp2_with fail
      have hk1 : Keeps (· = g) wr (wr.setCell ⟨g, 16 + k, none⟩ (.slice (some ⟨wr.heap.size, 0, none⟩) 1 1)) := Keeps.setCell wr ⟨g, 16 + k, none⟩ _
      have HS2 := hid (show ∃ (L : Nat → Option Addr × Nat) (N : Nat → Nat), ((wr.setCell ⟨g, 16 + k, none⟩ (.slice (some ⟨wr.heap.size, 0, none⟩) 1 1)).alloc (.cells #[.int .u8 0, .bool false, .int .u8 0, .int .u8 0, .int .u8 0] 114)).heap[g]? = some (.cells (vwC (valC a n cap (start3 p 0)) L N (List.replicate 3 [0, 0, 0])).toArray 112 (0, 0)) ∧ ∀ l, l < k + 1 → N l = 1 ∧ Rd ((wr.setCell ⟨g, 16 + k, none⟩ (.slice (some ⟨wr.heap.size, 0, none⟩) 1 1)).alloc (.cells #[.int .u8 0, .bool false, .int .u8 0, .int .u8 0, .int .u8 0] 114)) (L l).1 (wcells [msZ]) ∧ 1 ≤ (L l).2 ∧ ∀ b, blk (L l).1 = some b → g < b from by
        refine ⟨setL5 L k (some ⟨wr.heap.size, 0, none⟩, 1), setN5 N k 1, ?_, fun l hl => ?_⟩
        · rw [heap_alloc_old _ _ (by simp; exact hgl), heap_setL HG8.out, vwC_setl HHL.out hk3]
        · by_cases e : l = k
          · subst e
            have hn : ((wr.setCell ⟨g, 16 + l, none⟩ (.slice (some ⟨wr.heap.size, 0, none⟩) 1 1)).alloc (.cells #[.int .u8 0, .bool false, .int .u8 0, .int .u8 0, .int .u8 0] 114)).heap[wr.heap.size]? = some (.cells (wcells [msZ]).toArray 114 (0, 0)) := by
              have := heap_alloc_new (wr.setCell ⟨g, 16 + l, none⟩ (.slice (some ⟨wr.heap.size, 0, none⟩) 1 1)) (.cells #[.int .u8 0, .bool false, .int .u8 0, .int .u8 0, .int .u8 0] 114)
              rwa [show (wr.setCell ⟨g, 16 + l, none⟩ (.slice (some ⟨wr.heap.size, 0, none⟩) 1 1)).heap.size = wr.heap.size by simp] at this
            refine ⟨by unfold setN5; rw [if_pos rfl], ?_, by unfold setL5; rw [if_pos rfl]; exact Nat.le_refl _, fun b hb => ?_⟩
            · unfold setL5
              rw [if_pos rfl]
              exact .inr ⟨wr.heap.size, 0, rfl, by simp, fun j v hj => by rw [Nat.zero_add]; exact cell_L hn hj⟩
            · unfold setL5 at hb
              rw [if_pos rfl] at hb
              have : wr.heap.size = b := by simpa [blk] using hb
              omega
          · obtain ⟨h1, h2, h3, h4⟩ := HROW.out l (by omega)
            refine ⟨by unfold setN5; rw [if_neg e]; exact h1, ?_, by unfold setL5; rw [if_neg e]; exact h3, fun b hb => ?_⟩
            · unfold setL5
              rw [if_neg e]
              exact (h2.keeps hk1 fun b hb e => by have := h4 b hb; have e : b = g := e; omega).alloc _
            · unfold setL5 at hb
              rw [if_neg e] at hb
              exact h4 b hb)
      have HB2 := hid (show Below g w ((wr.setCell ⟨g, 16 + k, none⟩ (.slice (some ⟨wr.heap.size, 0, none⟩) 1 1)).alloc (.cells #[.int .u8 0, .bool false, .int .u8 0, .int .u8 0, .int .u8 0] 114)) from (HB.out.setCell (p := ⟨g, 16 + k, none⟩) (Nat.le_refl _) _).alloc (by simp; omega) _)
      refine ⟨⟨k + 1, by omega, by go_num, HS2, HB2⟩, ?_⟩
      simp [intOf]; omega
    · obtain rfl : k = 3 := by omega
      go_wp2_with fail
      go_ret
      have XYZ : True := trivial
      rw [← HGW.out]
      refine ⟨g, rfl, ⟨⟨a, cap, L, ?_, ?_, fun l hl => ?_⟩, HG.out⟩, HB.out⟩
      · rw [HG8.out, HVW.out, HU.out, HST.out, ← HN.out]
        unfold vwC
        dsimp only
        rw [(HROW.out 0 (by decide)).1, (HROW.out 1 (by decide)).1, (HROW.out 2 (by decide)).1, HRW.out 0 (by decide), HRW.out 1 (by decide), HRW.out 2 (by decide)]
        rfl
      · exact HP.out.below (by rw [HGW.out] at HB; exact HB.out)
      · obtain ⟨_, h2, h3, _⟩ := HROW.out l hl
        rw [HRW.out l hl]
        exact ⟨h2, h3⟩
end Go.Proofs.Ythlmfjoiicnomaa
