/-
  PROVED HERE: plain facts on states of machines with views. words for states with views that lie in memory: what can be read, what the call owns, what a store makes of it. CONDITIONS: as each theorem states.
-/
import Derived.Test.YthlmfjoiicnomaaBf
import Derived.Test.YthlmfjoiicnomaaSpg
namespace Go.Proofs.Ythlmfjoiicnomaa
open Go.RowKit
set_option linter.unusedVariables false
set_option linter.unusedSimpArgs false

/-- A write of a location. -/
structure Ms where
  val : Int
  lock : Bool
  view : List Int
def msZ : Ms := ⟨0, false, [0, 0, 0]⟩
/-- A state with views: how far threads are and registers, what each thread sees, the writes of each location. -/
structure Vs where
  st : St
  view : List (List Int)
  list : List (List Ms)
def vw (s : Vs) (t : Nat) : List Int := s.view.getD t []
def row5 (s : Vs) (l : Nat) : List Ms := s.list.getD l []
def seen5 (s : Vs) (t l : Nat) : Int := (vw s t).getD l 0
/-- The place is one where the instruction can be executed. -/
def fits5 (s : Vs) (t : Nat) (x : Ins) (k : Nat) : Bool :=
  if x.op = 4 then k == 0
  else if x.op = 1 then decide (seen5 s t x.loc.toNat ≤ (k : Int)) && decide (k < (row5 s x.loc.toNat).length)
  else if x.op = 5 then decide (seen5 s t x.loc.toNat ≤ (k : Int)) && decide (k < (row5 s x.loc.toNat).length) && !((row5 s x.loc.toNat).getD k msZ).lock
  else decide (seen5 s t x.loc.toNat < (k : Int)) && decide (k ≤ (row5 s x.loc.toNat).length) && !((row5 s x.loc.toNat).getD (k - 1) msZ).lock
def can5 (p : Prg) (s : Vs) (t k : Nat) : Bool := goes p s.st t && fits5 s t (nxt p s.st t) k
/-- A view after a write has got a place. -/
def bump (loc k : Nat) (v : List Int) : List Int := if (k : Int) ≤ v.getD loc 0 then v.set loc (v.getD loc 0 + 1) else v
def join5 (v u : List Int) : List Int := List.zipWith max v u
def bumpM (loc k : Nat) (m : Ms) : Ms := { m with view := bump loc k m.view }
/-- A write gets a place. -/
def ins5 (s : Vs) (t loc k : Nat) (val : Int) : Vs :=
  { st := s.st
    view := (s.view.map (bump loc k)).set t ((bump loc k (vw s t)).set loc (k : Int))
    list := (s.list.map (List.map (bumpM loc k))).set loc (((row5 s loc).map (bumpM loc k)).take k ++ [⟨val, false, (bump loc k (vw s t)).set loc (k : Int)⟩] ++ ((row5 s loc).map (bumpM loc k)).drop k) }
/-- The thread has gone one further. -/
def up5 (s : Vs) (t : Nat) : Vs := { s with st := { s.st with pc := s.st.pc.set t (s.st.pc.getD t 0 + 1) } }
/-- A thread reads. -/
def read5 (s : Vs) (t : Nat) (r : Nat) (m : Ms) : Vs := { s with st := { s.st with regs := s.st.regs.set (t * 3 + r) m.val }, view := s.view.set t (join5 (vw s t) m.view) }
def lock5 (s : Vs) (l k : Nat) : Vs := { s with list := s.list.set l ((row5 s l).set k { (row5 s l).getD k msZ with lock := true }) }
def do5x (s : Vs) (t : Nat) (x : Ins) (k : Nat) (val : Int) : Vs :=
  if x.op = 4 then up5 s t
  else if x.op = 1 then read5 (up5 s t) t x.reg.toNat ((row5 s x.loc.toNat).getD k msZ)
  else if x.op = 5 then ins5 (lock5 (read5 (up5 s t) t x.reg.toNat ((row5 s x.loc.toNat).getD k msZ)) x.loc.toNat k) t x.loc.toNat (k + 1) val
  else ins5 (up5 s t) t x.loc.toNat k val
def do5 (p : Prg) (s : Vs) (t k : Nat) : Vs := do5x s t (nxt p s.st t) k (wval s.st t (nxt p s.st t))
def done5 (p : Prg) (s : Vs) : Bool := done3 p s.st
def last5 (s : Vs) : List Int := s.list.map fun r => (r.getD (r.length - 1) msZ).val
def out5 (s : Vs) : List Int := s.st.regs ++ last5 s
def mostR (n : Nat) (r : List Ms) : Nat := if n ≤ r.length then r.length + 1 else n
def most5 (s : Vs) : Nat := s.list.foldl mostR 1
def moves5 (p : Prg) (s : Vs) : List Int := ((List.range (3 * most5 s)).filter fun c => can5 p s (c % 3) (c / 3)).map fun (c : Nat) => (c : Int)
def start5 (p : Prg) : Vs := ⟨start3 p 0, List.replicate p.length [0, 0, 0], List.replicate 3 [msZ]⟩
/-- A view of a state: three places, each of a write that is there. -/
def VwOk (s : Vs) (v : List Int) : Prop := v.length = 3 ∧ ∀ l, l < 3 → ∃ k : Nat, v[l]? = some (k : Int) ∧ k < (row5 s l).length
structure Good5 (p : Prg) (s : Vs) : Prop where
  good : Good p s.st
  mem0 : s.st.mem = [0, 0, 0]
  buf0 : s.st.buf = []
  vl : s.view.length = p.length
  ll : s.list.length = 3
  vok : ∀ v ∈ s.view, VwOk s v
  mok : ∀ r ∈ s.list, ∀ m ∈ r, (0 ≤ m.val ∧ m.val ≤ 3) ∧ VwOk s m.view
  last : ∀ r ∈ s.list, 0 < r.length ∧ (r.getD (r.length - 1) msZ).lock = false
  cnt : (((s.list.map List.length).sum : Nat) : Int) ≤ 3 + s.st.pc.sum

theorem row5_of {s : Vs} {l : Nat} {r : List Ms} (h : s.list[l]? = some r) : row5 s l = r := by
  unfold row5
  rw [List.getD_eq_getElem?_getD, h]
  rfl
theorem vw_of {s : Vs} {t : Nat} {v : List Int} (h : s.view[t]? = some v) : vw s t = v := by
  unfold vw
  rw [List.getD_eq_getElem?_getD, h]
  rfl
theorem Good5.row {p : Prg} {s : Vs} (h : Good5 p s) {l : Nat} (hl : l < 3) : s.list[l]? = some (row5 s l) := by
  have : l < s.list.length := by rw [h.ll]; exact hl
  rw [List.getElem?_eq_getElem this, row5_of (List.getElem?_eq_getElem this)]
theorem Good5.vrow {p : Prg} {s : Vs} (h : Good5 p s) {t : Nat} (ht : t < p.length) : s.view[t]? = some (vw s t) := by
  have : t < s.view.length := by rw [h.vl]; exact ht
  rw [List.getElem?_eq_getElem this, vw_of (List.getElem?_eq_getElem this)]
theorem Good5.rpos {p : Prg} {s : Vs} (h : Good5 p s) {l : Nat} (hl : l < 3) : 0 < (row5 s l).length ∧ ((row5 s l).getD ((row5 s l).length - 1) msZ).lock = false := h.last _ (List.mem_of_getElem? (h.row hl))
theorem Good5.seen {p : Prg} {s : Vs} (h : Good5 p s) {t l : Nat} (ht : t < p.length) (hl : l < 3) : ∃ k : Nat, seen5 s t l = (k : Int) ∧ (vw s t)[l]? = some (k : Int) ∧ k < (row5 s l).length := by
  obtain ⟨k, h1, h2⟩ := (h.vok _ (List.mem_of_getElem? (h.vrow ht))).2 l hl
  exact ⟨k, by unfold seen5; rw [List.getD_eq_getElem?_getD, h1]; rfl, h1, h2⟩
theorem Good5.vlen {p : Prg} {s : Vs} (h : Good5 p s) {t : Nat} (ht : t < p.length) : (vw s t).length = 3 := (h.vok _ (List.mem_of_getElem? (h.vrow ht))).1
theorem pcsum_le {p : Prg} {s : St} (h : Good p s) (hv : Shape p) : s.pc.sum ≤ 21 := by
  have h3 := hv.len
  have key : ∀ xs : List Int, (∀ x ∈ xs, x ≤ 7) → xs.sum ≤ 7 * (xs.length : Int) := by
    intro xs
    induction xs with
    | nil => intro _; simp
    | cons x xs ih =>
      intro hx
      have h1 := hx x List.mem_cons_self
      have h2 := ih fun y hy => hx y (List.mem_cons_of_mem _ hy)
      rw [List.sum_cons, List.length_cons]
      push_cast
      omega
  have := key s.pc fun x hx => by
    obtain ⟨i, hi⟩ := List.mem_iff_getElem?.1 hx
    have hip : i < p.length := by rw [← h.pcl]; exact (List.getElem?_eq_some_iff.1 hi).1
    obtain ⟨k, hk, hkl⟩ := h.pcb i _ (List.getElem?_eq_getElem hip)
    rw [hi] at hk
    have := hv.row i _ (List.getElem?_eq_getElem hip)
    have := Option.some.inj hk
    omega
  have := h.pcl
  omega
theorem sum_mem_le {xs : List Nat} {x : Nat} (h : x ∈ xs) : x ≤ xs.sum := by
  induction xs with
  | nil => cases h
  | cons y ys ih =>
    rw [List.sum_cons]
    rcases List.mem_cons.1 h with rfl | h
    · omega
    · have := ih h; omega
theorem Good5.rlen {p : Prg} {s : Vs} (h : Good5 p s) (hv : Shape p) {r : List Ms} (hr : r ∈ s.list) : r.length ≤ 24 := by
  have h1 := sum_mem_le (List.mem_map.2 ⟨r, hr, rfl⟩ : r.length ∈ s.list.map List.length)
  have h2 := h.cnt
  have h3 := pcsum_le h.good hv
  omega
theorem Good5.rowlen {p : Prg} {s : Vs} (h : Good5 p s) (hv : Shape p) {l : Nat} (hl : l < 3) : (row5 s l).length ≤ 24 := h.rlen hv (List.mem_of_getElem? (h.row hl))
theorem start_row {p : Prg} {l : Nat} (hl : l < 3) : row5 (start5 p) l = [msZ] := by
  refine row5_of ?_
  unfold start5
  rw [List.getElem?_replicate, if_pos hl]
theorem vwok_zero {s : Vs} (h : ∀ l, l < 3 → 0 < (row5 s l).length) : VwOk s [0, 0, 0] :=
  ⟨rfl, fun l hl => ⟨0, by
    have : l = 0 ∨ l = 1 ∨ l = 2 := by omega
    rcases this with rfl | rfl | rfl <;> rfl, h l hl⟩⟩
theorem good_start5 (p : Prg) : Good5 p (start5 p) := by
  have hz : VwOk (start5 p) [0, 0, 0] := vwok_zero fun l hl => by rw [start_row hl]; decide
  refine ⟨good_start p 0, rfl, rfl, by simp [start5], by simp [start5], fun v hv => ?_, fun r hr m hm => ?_, fun r hr => ?_, ?_⟩
  · rw [(List.mem_replicate.1 hv).2]; exact hz
  · rw [(List.mem_replicate.1 hr).2, List.mem_singleton] at hm
    subst hm
    exact ⟨⟨by decide, by decide⟩, hz⟩
  · rw [(List.mem_replicate.1 hr).2]; exact ⟨by decide, rfl⟩
  · have : (start5 p).st.pc.sum = 0 := by
      show (List.replicate p.length (0 : Int)).sum = 0
      induction p.length with
      | zero => rfl
      | succ n ih => rw [List.replicate_succ, List.sum_cons, ih]; rfl
    rw [this]
    show (((List.replicate 3 [msZ]).map List.length).sum : Nat) ≤ (3 + 0 : Int)
    decide
/-- The rows have grown. -/
theorem VwOk.mono {s s' : Vs} {v : List Int} (h : VwOk s v) (hl : ∀ l, l < 3 → (row5 s l).length ≤ (row5 s' l).length) : VwOk s' v :=
  ⟨h.1, fun l h3 => by
    obtain ⟨k, h1, h2⟩ := h.2 l h3
    exact ⟨k, h1, Nat.lt_of_lt_of_le h2 (hl l h3)⟩⟩
theorem max_cast (a b : Nat) : max (a : Int) (b : Int) = ((max a b : Nat) : Int) := by omega
theorem VwOk.join {s : Vs} {v u : List Int} (h : VwOk s v) (h' : VwOk s u) : VwOk s (join5 v u) := by
  refine ⟨by unfold join5; rw [List.length_zipWith, h.1, h'.1]; rfl, fun l hl => ?_⟩
  obtain ⟨k, h1, h2⟩ := h.2 l hl
  obtain ⟨k', h1', h2'⟩ := h'.2 l hl
  refine ⟨max k k', ?_, by omega⟩
  unfold join5
  rw [List.getElem?_zipWith, h1, h1']
  exact congrArg some (max_cast k k')
theorem bump_length (loc k : Nat) (v : List Int) : (bump loc k v).length = v.length := by
  unfold bump
  split
  · rw [List.length_set]
  · rfl
/-- A place after another place has been taken. -/
theorem bump_get {loc k : Nat} {v : List Int} {l i : Nat} (h : v[l]? = some (i : Int)) : (bump loc k v)[l]? = some (((if loc = l ∧ k ≤ i then i + 1 else i : Nat)) : Int) := by
  unfold bump
  by_cases hl : loc = l
  · subst hl
    rw [List.getD_eq_getElem?_getD, h]
    simp only [Option.getD_some, true_and]
    by_cases hk : k ≤ i
    · rw [if_pos (by omega), if_pos hk, List.getElem?_set_self (List.getElem?_eq_some_iff.1 h).1]
      rfl
    · rw [if_neg (by omega), if_neg hk, h]
  · rw [if_neg (fun e : loc = l ∧ k ≤ i => hl e.1)]
    split
    · rw [List.getElem?_set_ne hl, h]
    · exact h
theorem VwOk.bump {s s' : Vs} {v : List Int} {loc k : Nat} (h : VwOk s v) (hl : ∀ l, l < 3 → (row5 s' l).length = (row5 s l).length + if l = loc then 1 else 0) : VwOk s' (bump loc k v) := by
  refine ⟨by rw [bump_length, h.1], fun l h3 => ?_⟩
  obtain ⟨i, h1, h2⟩ := h.2 l h3
  refine ⟨_, bump_get h1, ?_⟩
  rw [hl l h3]
  by_cases e : loc = l
  · rw [if_pos e.symm]; split <;> omega
  · rw [if_neg (fun e' : l = loc => e e'.symm), if_neg (fun e' : loc = l ∧ k ≤ i => e e'.1)]
    omega
theorem VwOk.setp {s : Vs} {v : List Int} {loc k : Nat} (h : VwOk s v) (hk : k < (row5 s loc).length) : VwOk s (v.set loc (k : Int)) := by
  refine ⟨by rw [List.length_set, h.1], fun l h3 => ?_⟩
  obtain ⟨i, h1, h2⟩ := h.2 l h3
  by_cases e : loc = l
  · subst e
    exact ⟨k, List.getElem?_set_self (List.getElem?_eq_some_iff.1 h1).1, hk⟩
  · exact ⟨i, by rw [List.getElem?_set_ne e]; exact h1, h2⟩
theorem row5_set {s : Vs} {l c : Nat} {r : List Ms} {st : St} {vv : List (List Int)} (hl : l < s.list.length) : row5 ⟨st, vv, s.list.set l r⟩ c = if l = c then r else row5 s c := by
  unfold row5
  simp only [List.getD_eq_getElem?_getD, List.getElem?_set]
  split
  · rename_i e
    subst e
    first | rfl | (rw [if_pos hl]; rfl)
  · rfl
theorem sum_set : ∀ {xs : List (List Ms)} {l : Nat} {r : List Ms} (r' : List Ms), xs[l]? = some r → ((xs.set l r').map List.length).sum + r.length = (xs.map List.length).sum + r'.length
  | x :: xs, 0, r, r', h => by simp at h; subst h; simp; omega
  | x :: xs, l + 1, r, r', h => by
    simp at h
    have := sum_set r' h
    simp only [List.set_cons_succ, List.map_cons, List.sum_cons]
    omega
theorem sum_inc : ∀ {xs : List Int} {t : Nat}, t < xs.length → (xs.set t (xs.getD t 0 + 1)).sum = xs.sum + 1
  | x :: xs, 0, h => by simp; omega
  | x :: xs, t + 1, h => by
    have := sum_inc (xs := xs) (t := t) (by simpa using h)
    simp only [List.set_cons_succ, List.sum_cons, List.getD_cons_succ]
    omega
/-- A state that fits but for how many instructions have been executed. -/
structure Mid5 (p : Prg) (s : Vs) (d : Int) : Prop where
  good : Good p s.st
  mem0 : s.st.mem = [0, 0, 0]
  buf0 : s.st.buf = []
  vl : s.view.length = p.length
  ll : s.list.length = 3
  vok : ∀ v ∈ s.view, VwOk s v
  mok : ∀ r ∈ s.list, ∀ m ∈ r, (0 ≤ m.val ∧ m.val ≤ 3) ∧ VwOk s m.view
  last : ∀ r ∈ s.list, 0 < r.length ∧ (r.getD (r.length - 1) msZ).lock = false
  cnt : (((s.list.map List.length).sum : Nat) : Int) + d ≤ 3 + s.st.pc.sum
theorem Good5.mid {p : Prg} {s : Vs} (h : Good5 p s) : Mid5 p s 0 := ⟨h.good, h.mem0, h.buf0, h.vl, h.ll, h.vok, h.mok, h.last, by have := h.cnt; omega⟩
theorem Mid5.good5 {p : Prg} {s : Vs} {d : Int} (h : Mid5 p s d) (hd : 0 ≤ d) : Good5 p s := ⟨h.good, h.mem0, h.buf0, h.vl, h.ll, h.vok, h.mok, h.last, by have := h.cnt; omega⟩
theorem Good5.up {p : Prg} {s : Vs} (h : Good5 p s) {t k : Nat} {xs : List Ins} {x : Ins} (hp : p[t]? = some xs) (hk : s.st.pc[t]? = some (k : Int)) (hx : xs[k]? = some x) : Mid5 p (up5 s t) 1 := by
  have ht : t < s.st.pc.length := (List.getElem?_eq_some_iff.1 hk).1
  refine ⟨⟨by simp [up5, h.good.pcl], h.good.regl, h.good.meml, pcb_step h.good hp hk hx, h.good.regb, h.good.memb⟩, h.mem0, h.buf0, h.vl, h.ll, h.vok, h.mok, h.last, ?_⟩
  have := h.cnt
  have := sum_inc ht
  show (((s.list.map List.length).sum : Nat) : Int) + 1 ≤ 3 + (s.st.pc.set t (s.st.pc.getD t 0 + 1)).sum
  omega
theorem Mid5.read {p : Prg} {s : Vs} {d : Int} (h : Mid5 p s d) {t r : Nat} {m : Ms} (hm : (0 ≤ m.val ∧ m.val ≤ 3) ∧ VwOk s m.view) (ht : t < p.length) : Mid5 p (read5 s t r m) d := by
  have hv : VwOk s (vw s t) := h.vok _ (by
    have : t < s.view.length := by rw [h.vl]; exact ht
    rw [vw_of (List.getElem?_eq_getElem this)]
    exact List.getElem_mem _)
  refine ⟨⟨h.good.pcl, by simp [read5, h.good.regl], h.good.meml, h.good.pcb, set_bd h.good.regb hm.1, h.good.memb⟩, h.mem0, h.buf0, by simp [read5, h.vl], h.ll, fun v hv' => ?_, h.mok, h.last, h.cnt⟩
  rcases List.mem_or_eq_of_mem_set hv' with e | rfl
  · exact h.vok v e
  · exact hv.join hm.2
theorem lock5_len {p : Prg} {s : Vs} {d : Int} (h : Mid5 p s d) {l k : Nat} (hl : l < 3) (c : Nat) : (row5 (lock5 s l k) c).length = (row5 s c).length := by
  unfold lock5
  rw [row5_set (by rw [h.ll]; exact hl)]
  split
  · rename_i e; subst e; rw [List.length_set]
  · rfl
theorem Mid5.lrow {p : Prg} {s : Vs} {d : Int} (h : Mid5 p s d) {l : Nat} (hl : l < 3) : s.list[l]? = some (row5 s l) := by
  have : l < s.list.length := by rw [h.ll]; exact hl
  rw [List.getElem?_eq_getElem this, row5_of (List.getElem?_eq_getElem this)]
theorem Mid5.lock {p : Prg} {s : Vs} {d : Int} (h : Mid5 p s d) {l k : Nat} (hl : l < 3) (hk : k < (row5 s l).length) : (∀ c, (row5 (lock5 s l k) c).length = (row5 s c).length) ∧ (lock5 s l k).list.length = 3 ∧ (∀ v ∈ s.view, VwOk (lock5 s l k) v) ∧ (∀ r ∈ (lock5 s l k).list, ∀ m ∈ r, (0 ≤ m.val ∧ m.val ≤ 3) ∧ VwOk (lock5 s l k) m.view) ∧ ((lock5 s l k).list.map List.length).sum = (s.list.map List.length).sum ∧
    (∀ c, c < 3 → 0 < (row5 (lock5 s l k) c).length ∧ (∀ j, j ≠ k ∨ c ≠ l → ((row5 (lock5 s l k) c).getD j msZ) = ((row5 s c).getD j msZ))) := by
  have hlen := fun c => lock5_len h (k := k) hl c
  have hm : ∀ {v}, VwOk s v → VwOk (lock5 s l k) v := fun hv => hv.mono fun c _ => Nat.le_of_eq (hlen c).symm
  have hmk : (row5 s l).getD k msZ ∈ row5 s l := by
    rw [List.getD_eq_getElem?_getD, List.getElem?_eq_getElem hk]
    exact List.getElem_mem _
  have hr := List.mem_of_getElem? (h.lrow hl)
  refine ⟨hlen, by simp [lock5, h.ll], fun v hv => hm (h.vok v hv), fun r hr' m hm' => ?_, ?_, fun c hc => ⟨?_, fun j hj => ?_⟩⟩
  · rcases List.mem_or_eq_of_mem_set hr' with e | rfl
    · exact ⟨(h.mok r e m hm').1, hm (h.mok r e m hm').2⟩
    · rcases List.mem_or_eq_of_mem_set hm' with e | rfl
      · exact ⟨(h.mok _ hr m e).1, hm (h.mok _ hr m e).2⟩
      · exact ⟨(h.mok _ hr _ hmk).1, hm (h.mok _ hr _ hmk).2⟩
  · have := sum_set ((row5 s l).set k { (row5 s l).getD k msZ with lock := true }) (h.lrow hl)
    rw [List.length_set] at this
    exact Nat.add_right_cancel this
  · rw [hlen c]
    exact (h.last _ (List.mem_of_getElem? (h.lrow hc))).1
  · unfold lock5
    rw [row5_set (by rw [h.ll]; exact hl)]
    split
    · rename_i e
      subst e
      rcases hj with hj | hj
      · rw [List.getD_eq_getElem?_getD, List.getElem?_set_ne (Ne.symm hj), ← List.getD_eq_getElem?_getD]
      · exact absurd rfl hj
    · rfl
/-- The length of a row after a write has got a place in it. -/
theorem ins_len {s : Vs} (hll : s.list.length = 3) {t loc k : Nat} {val : Int} (hl : loc < 3) (hk : k ≤ (row5 s loc).length) (c : Nat) : (row5 (ins5 s t loc k val) c).length = (row5 s c).length + if c = loc then 1 else 0 := by
  unfold ins5
  have e0 : ∀ c, row5 ⟨s.st, s.view, s.list.map (List.map (bumpM loc k))⟩ c = (row5 s c).map (bumpM loc k) := fun c => by
    unfold row5
    rw [List.getD_eq_getElem?_getD, List.getD_eq_getElem?_getD]
    dsimp only
    rw [List.getElem?_map]
    cases s.list[c]? <;> rfl
  have := row5_set (s := ⟨s.st, s.view, s.list.map (List.map (bumpM loc k))⟩) (l := loc) (c := c) (r := ((row5 s loc).map (bumpM loc k)).take k ++ [⟨val, false, (bump loc k (vw s t)).set loc (k : Int)⟩] ++ ((row5 s loc).map (bumpM loc k)).drop k) (st := s.st) (vv := (s.view.map (bump loc k)).set t ((bump loc k (vw s t)).set loc (k : Int))) (by rw [List.length_map, hll]; exact hl)
  rw [this]
  by_cases e : loc = c
  · subst e
    rw [if_pos rfl, if_pos rfl]
    simp only [List.length_append, List.length_take, List.length_drop, List.length_map, List.length_singleton]
    omega
  · rw [if_neg e, if_neg (fun e' => e e'.symm), e0, List.length_map]
    rfl
theorem getD_map_bump {r : List Ms} {loc k j : Nat} (h : j < r.length) : (r.map (bumpM loc k)).getD j msZ = bumpM loc k (r.getD j msZ) := by
  rw [List.getD_eq_getElem?_getD, List.getElem?_map, List.getD_eq_getElem?_getD, List.getElem?_eq_getElem h]
  rfl
/-- A write gets a place: what is needed for it, ahead of the lock. -/
structure Pre5 (p : Prg) (s : Vs) (loc k : Nat) : Prop where
  good : Good p s.st
  mem0 : s.st.mem = [0, 0, 0]
  buf0 : s.st.buf = []
  vl : s.view.length = p.length
  ll : s.list.length = 3
  vok : ∀ v ∈ s.view, VwOk s v
  mok : ∀ r ∈ s.list, ∀ m ∈ r, (0 ≤ m.val ∧ m.val ≤ 3) ∧ VwOk s m.view
  lst : ∀ c, c < 3 → 0 < (row5 s c).length ∧ ((row5 s c).length - 1 < (row5 s c).length → (c ≠ loc ∨ k < (row5 s c).length) → ((row5 s c).getD ((row5 s c).length - 1) msZ).lock = false)
  cnt : (((s.list.map List.length).sum : Nat) : Int) + 1 ≤ 3 + s.st.pc.sum
theorem Mid5.pre {p : Prg} {s : Vs} (h : Mid5 p s 1) (loc k : Nat) : Pre5 p s loc k :=
  ⟨h.good, h.mem0, h.buf0, h.vl, h.ll, h.vok, h.mok, fun c hc => ⟨(h.last _ (List.mem_of_getElem? (h.lrow hc))).1, fun _ _ => (h.last _ (List.mem_of_getElem? (h.lrow hc))).2⟩, h.cnt⟩
theorem Mid5.preLock {p : Prg} {s : Vs} (h : Mid5 p s 1) {l k : Nat} (hl : l < 3) (hk : k < (row5 s l).length) : Pre5 p (lock5 s l k) l (k + 1) := by
  obtain ⟨h1, h2, h3, h4, h5, h6⟩ := h.lock hl hk
  refine ⟨h.good, h.mem0, h.buf0, h.vl, h2, h3, h4, fun c hc => ⟨(h6 c hc).1, fun _ hx => ?_⟩, by rw [h5]; exact h.cnt⟩
  rw [(h6 c hc).2 _ ?_, h1 c]
  · exact (h.last _ (List.mem_of_getElem? (h.lrow hc))).2
  · rw [h1 c] at hx ⊢
    by_cases e : c = l
    · subst e
      rcases hx with hx | hx
      · exact absurd rfl hx
      · exact .inl (by omega)
    · exact .inr e
theorem ins_last {p : Prg} {s : Vs} {loc k : Nat} (h : Pre5 p s loc k) {m : Ms} (hl : loc < 3) (hk : k ≤ (row5 s loc).length) (hm : m.lock = false := by rfl) :
    0 < (((row5 s loc).map (bumpM loc k)).take k ++ [m] ++ ((row5 s loc).map (bumpM loc k)).drop k).length ∧ ((((row5 s loc).map (bumpM loc k)).take k ++ [m] ++ ((row5 s loc).map (bumpM loc k)).drop k).getD ((((row5 s loc).map (bumpM loc k)).take k ++ [m] ++ ((row5 s loc).map (bumpM loc k)).drop k).length - 1) msZ).lock = false := by
  have e3 : (((row5 s loc).map (bumpM loc k)).take k ++ [m] ++ ((row5 s loc).map (bumpM loc k)).drop k).length = (row5 s loc).length + 1 := by
    simp only [List.length_append, List.length_take, List.length_drop, List.length_map, List.length_singleton]
    omega
  have ek : (((row5 s loc).map (bumpM loc k)).take k).length = k := by rw [List.length_take, List.length_map]; omega
  refine ⟨by rw [e3]; omega, ?_⟩
  rw [e3, Nat.add_sub_cancel, List.getD_eq_getElem?_getD, List.append_assoc, List.getElem?_append_right (by rw [ek]; exact hk), ek]
  by_cases he : k = (row5 s loc).length
  · rw [he, Nat.sub_self]
    exact hm
  · obtain ⟨h0, h1⟩ := h.lst loc hl
    obtain ⟨j, hj⟩ : ∃ j, (row5 s loc).length - k = j + 1 := ⟨(row5 s loc).length - k - 1, by omega⟩
    rw [hj]
    simp only [List.cons_append, List.nil_append, List.getElem?_cons_succ, List.getElem?_drop]
    rw [show k + j = (row5 s loc).length - 1 by omega, ← List.getD_eq_getElem?_getD, getD_map_bump (by omega)]
    exact h1 (by omega) (.inr (by omega))
theorem Pre5.ins {p : Prg} {s : Vs} {loc k : Nat} (h : Pre5 p s loc k) {t : Nat} {val : Int} (ht : t < p.length) (hl : loc < 3) (hk : k ≤ (row5 s loc).length) (hv : 0 ≤ val ∧ val ≤ 3) : Good5 p (ins5 s t loc k val) := by
  have hlen := ins_len h.ll (t := t) (val := val) hl hk
  have hrow : ∀ {c}, c < 3 → s.list[c]? = some (row5 s c) := fun {c} hc => by
    have : c < s.list.length := by rw [h.ll]; exact hc
    rw [List.getElem?_eq_getElem this, row5_of (List.getElem?_eq_getElem this)]
  have hb : ∀ {v}, VwOk s v → VwOk (ins5 s t loc k val) (bump loc k v) := fun hv => hv.bump fun c _ => hlen c
  have hvt : VwOk s (vw s t) := h.vok _ (by
    have : t < s.view.length := by rw [h.vl]; exact ht
    rw [vw_of (List.getElem?_eq_getElem this)]
    exact List.getElem_mem _)
  have hnew : VwOk (ins5 s t loc k val) ((bump loc k (vw s t)).set loc (k : Int)) := (hb hvt).setp (by rw [hlen, if_pos rfl]; omega)
  have hbm : ∀ r ∈ s.list, ∀ m ∈ r, (0 ≤ (bumpM loc k m).val ∧ (bumpM loc k m).val ≤ 3) ∧ VwOk (ins5 s t loc k val) (bumpM loc k m).view := fun r hr m hm => ⟨(h.mok r hr m hm).1, hb (h.mok r hr m hm).2⟩
  have hbm' : ∀ r ∈ s.list, ∀ m ∈ r.map (bumpM loc k), (0 ≤ m.val ∧ m.val ≤ 3) ∧ VwOk (ins5 s t loc k val) m.view := fun r hr m hm => by
    obtain ⟨m', hm', rfl⟩ := List.mem_map.1 hm
    exact hbm r hr m' hm'
  refine ⟨h.good, h.mem0, h.buf0, by simp [ins5, h.vl], by simp [ins5, h.ll], fun v hv' => ?_, fun r hr m hm => ?_, fun r hr => ?_, ?_⟩
  · rcases List.mem_or_eq_of_mem_set hv' with e | rfl
    · obtain ⟨v', hv2, rfl⟩ := List.mem_map.1 e
      exact hb (h.vok _ hv2)
    · exact hnew
  · rcases List.mem_or_eq_of_mem_set hr with e | rfl
    · obtain ⟨r', hr', rfl⟩ := List.mem_map.1 e
      exact hbm' r' hr' m hm
    · have hrl := List.mem_of_getElem? (hrow hl)
      rcases List.mem_append.1 hm with hm | hm
      · rcases List.mem_append.1 hm with hm | hm
        · exact hbm' _ hrl m (List.mem_of_mem_take hm)
        · rw [List.mem_singleton] at hm
          subst hm
          exact ⟨hv, hnew⟩
      · exact hbm' _ hrl m (List.mem_of_mem_drop hm)
  · rcases List.mem_or_eq_of_mem_set hr with e | rfl
    · obtain ⟨i, hi⟩ := List.mem_iff_getElem?.1 hr
      have hi3 : i < 3 := by
        have := (List.getElem?_eq_some_iff.1 hi).1
        simpa [ins5, h.ll] using this
      by_cases hil : loc = i
      · subst hil
        unfold ins5 at hi
        dsimp only at hi
        rw [List.getElem?_set_self (by rw [List.length_map, h.ll]; exact hl)] at hi
        rw [← Option.some.inj hi]
        refine ins_last h hl hk
      · unfold ins5 at hi
        dsimp only at hi
        rw [List.getElem?_set_ne hil, List.getElem?_map, hrow hi3] at hi
        rw [← Option.some.inj hi]
        obtain ⟨h0, h1⟩ := h.lst i hi3
        refine ⟨by rw [List.length_map]; exact h0, ?_⟩
        rw [List.length_map, getD_map_bump (by omega)]
        exact h1 (by omega) (.inl fun e => hil e.symm)
    · exact ins_last h hl hk
  · have := sum_set (((row5 s loc).map (bumpM loc k)).take k ++ [⟨val, false, (bump loc k (vw s t)).set loc (k : Int)⟩] ++ ((row5 s loc).map (bumpM loc k)).drop k) (show (s.list.map (List.map (bumpM loc k)))[loc]? = some ((row5 s loc).map (bumpM loc k)) by rw [List.getElem?_map, hrow hl]; rfl)
    have e2 : ((s.list.map (List.map (bumpM loc k))).map List.length).sum = (s.list.map List.length).sum := by
      rw [List.map_map]
      congr 2
      funext r
      simp
    have e3 : (((row5 s loc).map (bumpM loc k)).take k ++ [(⟨val, false, (bump loc k (vw s t)).set loc (k : Int)⟩ : Ms)] ++ ((row5 s loc).map (bumpM loc k)).drop k).length = (row5 s loc).length + 1 := by
      simp only [List.length_append, List.length_take, List.length_drop, List.length_map, List.length_singleton]
      omega
    rw [e2, e3, List.length_map] at this
    have h9 := h.cnt
    show ((((s.list.map (List.map (bumpM loc k))).set loc (((row5 s loc).map (bumpM loc k)).take k ++ [⟨val, false, (bump loc k (vw s t)).set loc (k : Int)⟩] ++ ((row5 s loc).map (bumpM loc k)).drop k)).map List.length).sum : Nat) ≤ (3 + s.st.pc.sum : Int)
    omega
/-- What a possible choice tells. -/
theorem Good5.next {p : Prg} {s : Vs} (h : Good5 p s) (hv : Shape p) {t k : Nat} (hc : can5 p s t k = true) : ∃ xs i x l r, p[t]? = some xs ∧ s.st.pc[t]? = some ((i : Nat) : Int) ∧ xs[i]? = some x ∧ insValid x = true ∧ nxt p s.st t = x ∧ i < 7 ∧ t < p.length ∧ x.loc = (l : Nat) ∧ l < 3 ∧ x.reg = (r : Nat) ∧ r < 3 ∧ goes p s.st t = true ∧ fits5 s t x k = true := by
  unfold can5 at hc
  simp only [Bool.and_eq_true] at hc
  obtain ⟨hg, hf⟩ := hc
  obtain ⟨xs, i, x, hp, hi, hx, hiv, hn, h7⟩ := h.good.next hv hg
  obtain ⟨l, hl, hl2⟩ := valid_loc hiv
  obtain ⟨r, hr, hr2⟩ := valid_reg hiv
  rw [hn] at hf
  exact ⟨xs, i, x, l, r, hp, hi, hx, hiv, hn, h7, (List.getElem?_eq_some_iff.1 hp).1, hl, by omega, hr, by omega, hg, hf⟩
theorem fits_lt {p : Prg} {s : Vs} (h : Good5 p s) {t k l : Nat} {x : Ins} (hl : x.loc = (l : Nat)) (hl3 : l < 3) (hf : fits5 s t x k = true) : k ≤ (row5 s l).length ∧ ((x.op = 1 ∨ x.op = 5) → x.op ≠ 4 → k < (row5 s l).length) ∧ (x.op = 4 → k = 0) ∧ (x.op = 5 → ((row5 s l).getD k msZ).lock = false) := by
  unfold fits5 at hf
  rw [hl, Int.toNat_natCast] at hf
  split at hf
  · have := (h.rpos hl3).1
    have h0 : k = 0 := by simpa using hf
    exact ⟨by omega, fun _ hn => absurd ‹x.op = 4› hn, fun _ => h0, fun e => by omega⟩
  · split at hf
    · simp only [Bool.and_eq_true, decide_eq_true_eq] at hf
      exact ⟨by omega, fun _ _ => hf.2, fun e => absurd e ‹_›, fun e => by omega⟩
    · split at hf
      · simp only [Bool.and_eq_true, decide_eq_true_eq, Bool.not_eq_true'] at hf
        exact ⟨by omega, fun _ _ => hf.1.2, fun e => absurd e ‹_›, fun _ => hf.2⟩
      · simp only [Bool.and_eq_true, decide_eq_true_eq, Bool.not_eq_true'] at hf
        exact ⟨hf.1.2, fun h => by rcases h with h | h <;> contradiction, fun e => absurd e ‹_›, fun e => absurd e ‹_›⟩
theorem up_rows (s : Vs) (t l : Nat) : row5 (up5 s t) l = row5 s l := rfl
theorem read_rows (s : Vs) (t r : Nat) (m : Ms) (l : Nat) : row5 (read5 s t r m) l = row5 s l := rfl
theorem Good5.step {p : Prg} {s : Vs} (h : Good5 p s) (hv : Shape p) {t k : Nat} (hc : can5 p s t k = true) : Good5 p (do5 p s t k) := by
  obtain ⟨xs, i, x, l, r, hp, hi, hx, hiv, hn, h7, ht, hl, hl3, hr, hr3, hg, hf⟩ := h.next hv hc
  obtain ⟨f1, f2, f3, f4⟩ := fits_lt h hl hl3 hf
  have hw := h.good.wv (t := t) hiv
  have hu := h.up hp hi hx
  have hrl := List.mem_of_getElem? (h.row hl3)
  unfold do5
  rw [hn]
  unfold do5x
  rw [hl, Int.toNat_natCast]
  have hmem : k < (row5 s l).length → (0 ≤ ((row5 s l).getD k msZ).val ∧ ((row5 s l).getD k msZ).val ≤ 3) ∧ VwOk (up5 s t) ((row5 s l).getD k msZ).view := fun hk => by
    have : (row5 s l).getD k msZ ∈ row5 s l := by
      rw [List.getD_eq_getElem?_getD, List.getElem?_eq_getElem hk]
      exact List.getElem_mem _
    exact h.mok _ hrl _ this
  split
  · exact hu.good5 (by decide)
  · split
    · exact (hu.read (hmem (f2 (.inl ‹_›) ‹_›)) ht).good5 (by decide)
    · split
      · have hk := f2 (.inr ‹_›) ‹_›
        exact Pre5.ins ((hu.read (hmem hk) ht).preLock hl3 (by rw [read_rows, up_rows]; exact hk)) ht hl3 (by rw [lock5_len (hu.read (hmem hk) ht) hl3, read_rows, up_rows]; exact hk) hw
      · exact (hu.pre l k).ins ht hl3 (by rw [up_rows]; exact f1) hw
theorem foldl_most : ∀ (ls : List (List Ms)) (n : Nat), n ≤ ls.foldl mostR n ∧ ∀ r ∈ ls, r.length < ls.foldl mostR n
  | [], n => ⟨Nat.le_refl _, fun r h => by cases h⟩
  | x :: ls, n => by
    have h0 : n ≤ mostR n x ∧ x.length < mostR n x := by unfold mostR; split <;> omega
    obtain ⟨h1, h2⟩ := foldl_most ls (mostR n x)
    rw [List.foldl_cons]
    refine ⟨by omega, fun r hr => ?_⟩
    rcases List.mem_cons.1 hr with rfl | hr
    · omega
    · exact h2 r hr
theorem foldl_le : ∀ (ls : List (List Ms)) (n B : Nat), n ≤ B → (∀ r ∈ ls, r.length < B) → ls.foldl mostR n ≤ B
  | [], n, B, h, _ => h
  | x :: ls, n, B, h, hr => foldl_le ls _ B (by have := hr x List.mem_cons_self; unfold mostR; split <;> omega) fun r h => hr r (List.mem_cons_of_mem _ h)
theorem Good5.most_le {p : Prg} {s : Vs} (h : Good5 p s) (hv : Shape p) : most5 s ≤ 25 := foldl_le _ _ _ (by decide) fun r hr => Nat.lt_succ_of_le (h.rlen hv hr)
theorem mem_moves5 {p : Prg} {s : Vs} (h : Good5 p s) (hv : Shape p) (m : Int) : m ∈ moves5 p s ↔ ∃ c : Nat, m = c ∧ can5 p s (c % 3) (c / 3) = true := by
  unfold moves5
  simp only [List.mem_map, List.mem_filter, List.mem_range]
  constructor
  · rintro ⟨c, ⟨h1, h2⟩, rfl⟩; exact ⟨c, rfl, h2⟩
  · rintro ⟨c, rfl, h2⟩
    refine ⟨c, ⟨?_, h2⟩, rfl⟩
    obtain ⟨_, _, x, l, r, _, _, _, _, _, _, _, hl, hl3, _, _, _, hf⟩ := h.next hv h2
    have h1 := (fits_lt h hl hl3 hf).1
    have h3 := (foldl_most s.list 1).2 _ (List.mem_of_getElem? (h.row hl3))
    unfold most5
    omega
/-- A thread that is not done has a choice. -/
theorem can_some {p : Prg} {s : Vs} (h : Good5 p s) (hv : Shape p) {t : Nat} (hg : goes p s.st t = true) : ∃ k, can5 p s t k = true := by
  obtain ⟨xs, i, x, hp, hi, hx, hiv, hn, h7⟩ := h.good.next hv hg
  obtain ⟨l, hl, hl2⟩ := valid_loc hiv
  have ht : t < p.length := (List.getElem?_eq_some_iff.1 hp).1
  obtain ⟨v, hv1, _, hv2⟩ := h.seen ht (l := l) (by omega)
  obtain ⟨hp0, hp1⟩ := h.rpos (l := l) (by omega)
  have key : ∀ k, fits5 s t x k = true → ∃ k, can5 p s t k = true := fun k hk => ⟨k, by
    unfold can5
    rw [hg, hn, hk]
    rfl⟩
  by_cases h4 : x.op = 4
  · exact key 0 (by unfold fits5; rw [if_pos h4]; rfl)
  · by_cases h1 : x.op = 1
    · refine key ((row5 s l).length - 1) ?_
      unfold fits5
      rw [if_neg h4, if_pos h1, hl, Int.toNat_natCast, hv1]
      simp only [Bool.and_eq_true, decide_eq_true_eq]
      omega
    · by_cases h5 : x.op = 5
      · refine key ((row5 s l).length - 1) ?_
        unfold fits5
        rw [if_neg h4, if_neg h1, if_pos h5, hl, Int.toNat_natCast, hv1, hp1]
        simp only [Bool.and_eq_true, decide_eq_true_eq, Bool.not_false, and_true]
        omega
      · refine key (row5 s l).length ?_
        unfold fits5
        rw [if_neg h4, if_neg h1, if_neg h5, hl, Int.toNat_natCast, hv1, hp1]
        simp only [Bool.and_eq_true, decide_eq_true_eq, Bool.not_false, and_true]
        omega
theorem done5_iff {p : Prg} {s : Vs} : done5 p s = true ↔ ∀ t, t < p.length → goes p s.st t = false := by
  unfold done5 done3
  rw [List.all_eq_true]
  constructor
  · intro h t ht
    have := h t (List.mem_range.2 ht)
    simpa using this
  · intro h t ht
    rw [h t (List.mem_range.1 ht)]
    rfl
/-- A program with views does not get stuck. -/
theorem moves5_ne {p : Prg} {s : Vs} (h : Good5 p s) (hv : Shape p) (hd : done5 p s = false) : moves5 p s ≠ [] := by
  have : ∃ t, goes p s.st t = true := Classical.byContradiction fun hx => by
    have : done5 p s = true := done5_iff.2 fun t ht => by
      cases hg : goes p s.st t with
      | false => rfl
      | true => exact (hx ⟨t, hg⟩).elim
    rw [this] at hd
    cases hd
  obtain ⟨t, ht⟩ := this
  obtain ⟨k, hk⟩ := can_some h hv ht
  obtain ⟨_, _, _, _, _, _, _, _, _, _, _, htp, _⟩ := h.next hv hk
  have h3 := hv.len
  intro e
  have hm : ((3 * k + t : Nat) : Int) ∈ moves5 p s := (mem_moves5 h hv _).2 ⟨3 * k + t, rfl, by
    rw [show (3 * k + t) % 3 = t by omega, show (3 * k + t) / 3 = k by omega]
    exact hk⟩
  rw [e] at hm
  cases hm
/-- The state that a choice leads to, the states that choices lead to. -/
def doC (p : Prg) (s : Vs) (m : Int) : Vs := do5 p s (m.toNat % 3) (m.toNat / 3)
theorem stepC {p : Prg} (hv : Shape p) {s : Vs} {m : Int} (h : Good5 p s) (hm : m ∈ moves5 p s) : Good5 p (doC p s m) := by
  obtain ⟨c, rfl, hc⟩ := (mem_moves5 h hv m).1 hm
  unfold doC
  rw [Int.toNat_natCast]
  exact h.step hv hc
def raRun (p : Prg) (ms : List Int) : Option Vs := follow (moves5 p) (doC p) (start5 p) ms
def runCho (p : Prg) (ms : List Int) : List Int × Bool := if progValid p then runRes (done5 p) out5 (raRun p ms) else ([], false)
def choAft (p : Prg) (ms : List Int) : List Int := if progValid p then match raRun p ms with | some s => moves5 p s | none => [] else []
theorem follow_ok {σ : Type} {I : σ → Prop} {mv : σ → List Int} {st : σ → Int → σ} (hst : ∀ s m, I s → m ∈ mv s → I (st s m)) : ∀ (ms : List Int) (s s' : σ), I s → follow mv st s ms = some s' → I s'
  | [], s, s', h, e => by simp [follow] at e; rw [← e]; exact h
  | m :: ms, s, s', h, e => by
    simp only [follow] at e
    split at e
    · exact follow_ok hst ms _ _ (hst s m h (by assumption)) e
    · cases e
theorem raRun_good {p : Prg} (hv : Shape p) {ms : List Int} {s : Vs} (h : raRun p ms = some s) : Good5 p s := follow_ok (fun s m h hm => stepC hv h hm) _ _ _ (good_start5 p) h
theorem out5_len {p : Prg} {s : Vs} (h : Good5 p s) (hv : Shape p) : (out5 s).length ≤ 12 := by
  have := hv.len
  simp [out5, last5, h.good.regl, h.ll]; omega
theorem moves5_len {p : Prg} {s : Vs} (h : Good5 p s) (hv : Shape p) : (moves5 p s).length ≤ 75 := by
  have h1 := h.most_le hv
  unfold moves5
  rw [List.length_map]
  refine Nat.le_trans (List.length_filter_le _ _) ?_
  rw [List.length_range]
  omega
theorem runCho_len (p : Prg) (ms : List Int) : (runCho p ms).1.length ≤ 1048576 := by
  unfold runCho
  split
  · rename_i hv
    have hsh := (valid_of hv).toShape
    unfold runRes
    split
    · rename_i s hs
      split
      · have := out5_len (raRun_good hsh hs) hsh
        dsimp only
        omega
      · simp
    · simp
  · simp
theorem choAft_len (p : Prg) (ms : List Int) : (choAft p ms).length ≤ 1048576 := by
  unfold choAft
  split
  · rename_i hv
    have hsh := (valid_of hv).toShape
    split
    · rename_i s hs
      have := moves5_len (raRun_good hsh hs) hsh
      omega
    · simp
  · simp
end Go.Proofs.Ythlmfjoiicnomaa
namespace Go.Proofs.Ythlmfjoiicnomaa
open Go.RowKit
set_option linter.unusedVariables false
set_option linter.unusedSimpArgs false

/-- A row of numbers of a state: (0, 0) how far threads are, (0, 1) registers, (1, t) what thread t sees, (l + 2, k) what is seen with write k of location l. -/
abbrev Ix := Nat × Nat
/-- What the rows of a state hold. -/
structure Ct where
  X : Ix → List Int
  nv : Nat
  nl : Nat
  N : Nat → Nat
  MV : Nat → Nat → Int
  LK : Nat → Nat → Bool
/-- Where the rows lie. -/
structure Ly where
  I : Ix → Option Addr × Nat
  L : Nat → Option Addr × Nat
def Ct.dom (c : Ct) (ix : Ix) : Prop := (ix.1 = 0 ∧ ix.2 < 2) ∨ (ix.1 = 1 ∧ ix.2 < c.nv) ∨ (2 ≤ ix.1 ∧ ix.1 < c.nl + 2 ∧ ix.2 < c.N (ix.1 - 2))
def vcells (y : Ly) (n : Nat) : List Value := (List.range n).map fun t => .slice (y.I (1, t)).1 3 (y.I (1, t)).2
def lcells (y : Ly) (N : Nat → Nat) (n : Nat) : List Value := (List.range n).map fun l => .slice (y.L l).1 (N l) (y.L l).2
def mcell (r : Option Addr × Nat) (v : Int) (b : Bool) (j : Nat) : Value := if j = 0 then .int .i64 v else if j = 1 then .bool b else .slice r.1 3 r.2
def mcells (y : Ly) (MV : Nat → Nat → Int) (LK : Nat → Nat → Bool) (l n : Nat) : List Value := (List.range (n * 3)).map fun i => mcell (y.I (l + 2, i / 3)) (MV l (i / 3)) (LK l (i / 3)) (i % 3)
theorem vcells_len (y : Ly) (n : Nat) : (vcells y n).length = n := by simp [vcells]
theorem lcells_len (y : Ly) (N : Nat → Nat) (n : Nat) : (lcells y N n).length = n := by simp [lcells]
theorem mcells_len (y : Ly) (MV : Nat → Nat → Int) (LK : Nat → Nat → Bool) (l n : Nat) : (mcells y MV LK l n).length = n * 3 := by simp [mcells]
theorem vcells_get {y : Ly} {n t : Nat} (h : t < n) : (vcells y n)[t]? = some (.slice (y.I (1, t)).1 3 (y.I (1, t)).2) := by simp [vcells, List.getElem?_range, h]
theorem lcells_get {y : Ly} {N : Nat → Nat} {n l : Nat} (h : l < n) : (lcells y N n)[l]? = some (.slice (y.L l).1 (N l) (y.L l).2) := by simp [lcells, List.getElem?_range, h]
theorem mcells_get {y : Ly} {MV : Nat → Nat → Int} {LK : Nat → Nat → Bool} {l n k j : Nat} (h : k < n) (hj : j < 3) : (mcells y MV LK l n)[k * 3 + j]? = some (mcell (y.I (l + 2, k)) (MV l k) (LK l k) j) := by
  unfold mcells
  rw [List.getElem?_map, List.getElem?_range (by omega)]
  simp only [Option.map_some]
  rw [show (k * 3 + j) / 3 = k by omega, show (k * 3 + j) % 3 = j by omega]
theorem mcell_one (r : Option Addr × Nat) (v : Int) (b : Bool) (j : Nat) : (mcell r v b j).oneCell' = true := by unfold mcell; split; rfl; split <;> rfl
theorem mcells_one (y : Ly) (MV : Nat → Nat → Int) (LK : Nat → Nat → Bool) (l n : Nat) : ∀ u ∈ mcells y MV LK l n, u.oneCell' = true := by
  intro u hu
  obtain ⟨i, _, rfl⟩ := List.mem_map.1 hu
  exact mcell_one _ _ _ _
theorem vcells_succ (y : Ly) (n : Nat) : vcells y (n + 1) = vcells y n ++ [.slice (y.I (1, n)).1 3 (y.I (1, n)).2] := by simp [vcells, List.range_succ]
theorem lcells_succ (y : Ly) (N : Nat → Nat) (n : Nat) : lcells y N (n + 1) = lcells y N n ++ [.slice (y.L n).1 (N n) (y.L n).2] := by simp [lcells, List.range_succ]
theorem mcells_succ (y : Ly) (MV : Nat → Nat → Int) (LK : Nat → Nat → Bool) (l n : Nat) : mcells y MV LK l (n + 1) = mcells y MV LK l n ++ [.int .i64 (MV l n), .bool (LK l n), .slice (y.I (l + 2, n)).1 3 (y.I (l + 2, n)).2] := by
  unfold mcells
  rw [show (n + 1) * 3 = n * 3 + 1 + 1 + 1 by omega, List.range_succ, List.range_succ, List.range_succ]
  simp only [List.map_append, List.map_cons, List.map_nil, List.append_assoc, List.cons_append, List.nil_append]
  rw [show (n * 3) / 3 = n by omega, show (n * 3) % 3 = 0 by omega, show (n * 3 + 1) / 3 = n by omega, show (n * 3 + 1) % 3 = 1 by omega, show (n * 3 + 1 + 1) / 3 = n by omega, show (n * 3 + 1 + 1) % 3 = 2 by omega]
  rfl
theorem vcells_congr {y y' : Ly} {n : Nat} (h : ∀ t, t < n → y'.I (1, t) = y.I (1, t)) : vcells y' n = vcells y n := by
  refine List.map_congr_left fun t ht => ?_
  rw [h t (List.mem_range.1 ht)]
theorem lcells_congr {y y' : Ly} {N N' : Nat → Nat} {n : Nat} (h : ∀ l, l < n → y'.L l = y.L l ∧ N' l = N l) : lcells y' N' n = lcells y N n := by
  refine List.map_congr_left fun l hl => ?_
  rw [(h l (List.mem_range.1 hl)).1, (h l (List.mem_range.1 hl)).2]
theorem mcells_congr {y y' : Ly} {MV MV' : Nat → Nat → Int} {LK LK' : Nat → Nat → Bool} {l l' n : Nat} (h : ∀ k, k < n → y'.I (l' + 2, k) = y.I (l + 2, k) ∧ MV' l' k = MV l k ∧ LK' l' k = LK l k) : mcells y' MV' LK' l' n = mcells y MV LK l n := by
  refine List.map_congr_left fun i hi => ?_
  have := h (i / 3) (by have := List.mem_range.1 hi; omega)
  rw [this.1, this.2.1, this.2.2]
abbrev Ct.hd (c : Ct) (q : Sp) : Array Value := #[.slice q.a0 (c.X (0, 0)).length q.c0, .slice q.a1 (c.X (0, 1)).length q.c1, .slice q.a2 c.nv q.c2, .slice q.a3 c.nl q.c3]
/-- The state can be read. -/
structure RdC (w : World) (q : Sp) (y : Ly) (c : Ct) : Prop where
  int : ∀ ix, c.dom ix → Rd w (y.I ix).1 (ints (c.X ix)) ∧ (c.X ix).length ≤ (y.I ix).2
  h0 : y.I (0, 0) = (q.a0, q.c0)
  h1 : y.I (0, 1) = (q.a1, q.c1)
  vo : Rd w q.a2 (vcells y c.nv)
  lo : Rd w q.a3 (lcells y c.N c.nl)
  row : ∀ l, l < c.nl → Rd w (y.L l).1 (mcells y c.MV c.LK l (c.N l)) ∧ c.N l ≤ (y.L l).2
  len : ∀ ix, c.dom ix → 1 ≤ ix.1 → (c.X ix).length = 3
theorem RdC.below {w w' : World} {q : Sp} {y : Ly} {c : Ct} (h : RdC w q y c) (hb : Below w.heap.size w w') : RdC w' q y c :=
  ⟨fun ix hx => ⟨(h.int ix hx).1.below hb, (h.int ix hx).2⟩, h.h0, h.h1, h.vo.below hb, h.lo.below hb, fun l hl => ⟨(h.row l hl).1.below hb, (h.row l hl).2⟩, h.len⟩
/-- The state is the call's own; n of its rows of writes are in the list. -/
structure OwC (w : World) (base : Nat) (q : Sp) (y : Ly) (c : Ct) (n : Nat) : Prop where
  int : ∀ ix, c.dom ix → OwI w base (y.I ix).1 (y.I ix).2 (c.X ix)
  dis : ∀ ix iy b, c.dom ix → c.dom iy → blk (y.I ix).1 = some b → blk (y.I iy).1 = some b → ix = iy
  h0 : y.I (0, 0) = (q.a0, q.c0)
  h1 : y.I (0, 1) = (q.a1, q.c1)
  vo : w.ownsRow base 24 1 (.slice q.a2 c.nv q.c2) c.nv (vcells y c.nv)
  lo : w.ownsRow base 118 1 (.slice q.a3 n q.c3) n (lcells y c.N n)
  row : ∀ l, l < c.nl → w.ownsRow base 117 3 (.slice (y.L l).1 (c.N l) (y.L l).2) (c.N l) (mcells y c.MV c.LK l (c.N l))
  ldis : ∀ l l' b, l < c.nl → l' < c.nl → blk (y.L l).1 = some b → blk (y.L l').1 = some b → l = l'
  len : ∀ ix, c.dom ix → 1 ≤ ix.1 → (c.X ix).length = 3
  nle : n ≤ c.nl
section
variable {w w' : World} {base : Nat} {q : Sp} {y : Ly} {c : Ct} {n : Nat}
theorem OwC.below (h : OwC w base q y c n) (hb : Below w.heap.size w w') : OwC w' base q y c n :=
  ⟨fun ix hx => own_below (h.int ix hx) hb, h.dis, h.h0, h.h1, own_below h.vo hb, own_below h.lo hb, fun l hl => own_below (h.row l hl) hb, h.ldis, h.len, h.nle⟩
theorem OwC.rd (h : OwC w base q y c n) (hn : n = c.nl) : RdC w q y c := by
  subst hn
  exact ⟨fun ix hx => ⟨Rd.own (h.int ix hx), own_cap (h.int ix hx)⟩, h.h0, h.h1, Rd.own h.vo, Rd.own h.lo, fun l hl => ⟨Rd.own (h.row l hl), own_cap (h.row l hl)⟩, h.len⟩
/-- A change that leaves the rows alone. -/
theorem OwC.keeps {S : Nat → Prop} (h : OwC w base q y c n) (hk : Keeps S w w') (hS : ∀ b, base ≤ b → b < w.heap.size → ¬ S b) : OwC w' base q y c n := by
  have key : ∀ {e size m : Nat} {a : Option Addr} {cap : Nat} {cs : List Value}, w.ownsRow base e size (.slice a m cap) m cs → w'.ownsRow base e size (.slice a m cap) m cs := fun ho => own_keeps ho hk fun b hb => hS b (own_blk ho b hb).1 (own_blk ho b hb).2
  exact ⟨fun ix hx => key (h.int ix hx), h.dis, h.h0, h.h1, key h.vo, key h.lo, fun l hl => key (h.row l hl), h.ldis, h.len, h.nle⟩
/-- A row of numbers turns. -/
def Ct.setX (c : Ct) (ix : Ix) (xs : List Int) : Ct := { c with X := fun iy => if iy = ix then xs else c.X iy }
theorem OwC.set (h : OwC w base q y c n) {ix : Ix} (hx : c.dom ix) {g : Nat} (hg : (y.I ix).1 = some ⟨g, 0, none⟩) (j : Nat) (v : Int) : OwC (w.setCell ⟨g, j, none⟩ (.int .i64 v)) base q y (c.setX ix ((c.X ix).set j v)) n := by
  have k := Keeps.setCell w ⟨g, j, none⟩ (.int .i64 v)
  have hgb : blk (y.I ix).1 = some g := by rw [hg]; rfl
  have hgo := h.int ix hx
  have oth : ∀ {e size m : Nat} {a : Option Addr} {cap : Nat} {cs : List Value}, w.ownsRow base e size (.slice a m cap) m cs → e ≠ 3 → (w.setCell ⟨g, j, none⟩ (.int .i64 v)).ownsRow base e size (.slice a m cap) m cs := fun ho he =>
    own_keeps ho k fun b hb e => own_apart ho hgo he b hb (by rw [hgb]; exact congrArg some (Eq.symm e))
  refine ⟨fun iy hy => ?_, h.dis, h.h0, h.h1, oth h.vo (by decide), oth h.lo (by decide), fun l hl => oth (h.row l hl) (by decide), h.ldis, fun iy hy h1 => ?_, h.nle⟩
  · show OwI _ base (y.I iy).1 (y.I iy).2 (if iy = ix then (c.X ix).set j v else c.X iy)
    by_cases e : iy = ix
    · subst e
      rw [if_pos rfl]
      unfold OwI at hgo ⊢
      rw [hg] at hgo ⊢
      have := (hgo.stored j (.int .i64 v)).1
      have e2 : (ints (c.X iy)).set j (.int .i64 v) = ints ((c.X iy).set j v) := by simp [ints, List.map_set]
      rw [e2] at this
      simpa using this
    · rw [if_neg e]
      exact own_keeps (h.int iy hy) k fun b hb eb => e (h.dis iy ix b hy hx hb (by rw [hgb]; exact congrArg some (Eq.symm eb)))
  · show (if iy = ix then (c.X ix).set j v else c.X iy).length = 3
    by_cases e : iy = ix
    · subst e
      rw [if_pos rfl, List.length_set]
      exact h.len iy hx h1
    · rw [if_neg e]
      exact h.len iy hy h1
/-- A write is taken. -/
def Ct.setLK (c : Ct) (l k : Nat) : Ct := { c with LK := fun l' k' => if l' = l ∧ k' = k then true else c.LK l' k' }
theorem mcells_lock (y : Ly) (MV : Nat → Nat → Int) (LK : Nat → Nat → Bool) (l n k : Nat) (hk : k < n) : (mcells y MV LK l n).set (k * 3 + 1) (.bool true) = mcells y MV (fun l' k' => if l' = l ∧ k' = k then true else LK l' k') l n := by
  apply List.ext_getElem?
  intro i
  rw [List.getElem?_set]
  by_cases hi : i < n * 3
  · obtain ⟨m, j, rfl, hj⟩ : ∃ m j, i = m * 3 + j ∧ j < 3 := ⟨i / 3, i % 3, by omega, by omega⟩
    have hm : m < n := by omega
    rw [mcells_get hm hj]
    by_cases e : k * 3 + 1 = m * 3 + j
    · have e1 : m = k := by omega
      have e2 : j = 1 := by omega
      subst e1 e2
      rw [if_pos rfl, if_pos (by rw [mcells_len]; omega), mcells_get (by assumption) (by decide)]
      simp [mcell]
    · rw [if_neg e, mcells_get hm hj]
      by_cases e1 : m = k
      · subst e1
        have e2 : j ≠ 1 := by omega
        unfold mcell
        by_cases e0 : j = 0
        · simp [e0]
        · simp [e0, e2]
      · simp [e1]
  · rw [List.getElem?_eq_none (by rw [mcells_len]; omega), List.getElem?_eq_none (by rw [mcells_len]; omega)]
    split
    · rw [if_neg (by rw [mcells_len]; omega)]
    · rfl
theorem OwC.lock (h : OwC w base q y c n) {l k : Nat} (hl : l < c.nl) (hk : k < c.N l) {g : Nat} (hg : (y.L l).1 = some ⟨g, 0, none⟩) : OwC (w.setCell ⟨g, k * 3 + 1, none⟩ (.bool true)) base q y (c.setLK l k) n := by
  have kp := Keeps.setCell w ⟨g, k * 3 + 1, none⟩ (.bool true)
  have hgb : blk (y.L l).1 = some g := by rw [hg]; rfl
  have hgo := h.row l hl
  have oth : ∀ {e size m : Nat} {a : Option Addr} {cap : Nat} {cs : List Value}, w.ownsRow base e size (.slice a m cap) m cs → e ≠ 117 → (w.setCell ⟨g, k * 3 + 1, none⟩ (.bool true)).ownsRow base e size (.slice a m cap) m cs := fun ho he =>
    own_keeps ho kp fun b hb e => own_apart ho hgo he b hb (by rw [hgb]; exact congrArg some (Eq.symm e))
  refine ⟨fun iy hy => oth (h.int iy hy) (by decide), h.dis, h.h0, h.h1, oth h.vo (by decide), oth h.lo (by decide), fun l' hl' => ?_, h.ldis, h.len, h.nle⟩
  by_cases e : l' = l
  · subst e
    show World.ownsRow _ base _ 3 (.slice (y.L l').1 (c.N l') (y.L l').2) (c.N l') (mcells y c.MV (fun l1 k1 => if l1 = l' ∧ k1 = k then true else c.LK l1 k1) l' (c.N l'))
    rw [← mcells_lock y c.MV c.LK l' (c.N l') k hk]
    rw [hg] at hgo ⊢
    have := (hgo.stored (k * 3 + 1) (.bool true)).1
    simpa using this
  · have e2 : mcells y c.MV (c.setLK l k).LK l' (c.N l') = mcells y c.MV c.LK l' (c.N l') := mcells_congr fun k' hk' => ⟨rfl, rfl, by
      show (if l' = l ∧ k' = k then true else c.LK l' k') = c.LK l' k'
      rw [if_neg (fun e' => e e'.1)]⟩
    show World.ownsRow _ base _ 3 (.slice (y.L l').1 (c.N l') (y.L l').2) (c.N l') (mcells y c.MV (c.setLK l k).LK l' (c.N l'))
    rw [e2]
    exact own_keeps (h.row l' hl') kp fun b hb eb => e (h.ldis l' l b hl' hl hb (by rw [hgb]; exact congrArg some (Eq.symm eb)))
end
/-- The state can be read; all its rows are new. -/
def FrC (w : World) (base : Nat) (q : Sp) (c : Ct) : Prop :=
  ∃ y, RdC w q y c ∧ (∀ ix b, c.dom ix → blk (y.I ix).1 = some b → base ≤ b) ∧ (∀ b, blk q.a2 = some b → base ≤ b) ∧ (∀ b, blk q.a3 = some b → base ≤ b) ∧ ∀ l b, l < c.nl → blk (y.L l).1 = some b → base ≤ b
theorem OwC.fr {w : World} {base : Nat} {q : Sp} {y : Ly} {c : Ct} {n : Nat} (h : OwC w base q y c n) (hn : n = c.nl) : FrC w base q c :=
  ⟨y, h.rd hn, fun ix b hx hb => (own_blk (h.int ix hx) b hb).1, fun b hb => (own_blk h.vo b hb).1, fun b hb => (own_blk h.lo b hb).1, fun l b hl hb => (own_blk (h.row l hl) b hb).1⟩
theorem FrC.keeps {w w' : World} {base : Nat} {q : Sp} {c : Ct} {S : Nat → Prop} (h : FrC w base q c) (hk : Keeps S w w') (hS : ∀ b, base ≤ b → ¬ S b) : FrC w' base q c := by
  obtain ⟨y, hr, h1, h2, h3, h4⟩ := h
  exact ⟨y, ⟨fun ix hx => ⟨(hr.int ix hx).1.keeps hk fun b hb => hS b (h1 ix b hx hb), (hr.int ix hx).2⟩, hr.h0, hr.h1, hr.vo.keeps hk fun b hb => hS b (h2 b hb), hr.lo.keeps hk fun b hb => hS b (h3 b hb), fun l hl => ⟨(hr.row l hl).1.keeps hk fun b hb => hS b (h4 l b hl hb), (hr.row l hl).2⟩, hr.len⟩, h1, h2, h3, h4⟩
theorem FrC.down {w : World} {base base' : Nat} {q : Sp} {c : Ct} (h : FrC w base' q c) (hb : base ≤ base') : FrC w base q c := by
  obtain ⟨y, hr, h1, h2, h3, h4⟩ := h
  exact ⟨y, hr, fun ix b hx hb' => Nat.le_trans hb (h1 ix b hx hb'), fun b hb' => Nat.le_trans hb (h2 b hb'), fun b hb' => Nat.le_trans hb (h3 b hb'), fun l b hl hb' => Nat.le_trans hb (h4 l b hl hb')⟩
/-- States whose rows hold the same. -/
structure CtEq (c c' : Ct) : Prop where
  nv : c'.nv = c.nv
  nl : c'.nl = c.nl
  N : ∀ l, l < c.nl → c'.N l = c.N l
  X : ∀ ix, c.dom ix → c'.X ix = c.X ix
  M : ∀ l k, l < c.nl → k < c.N l → c'.MV l k = c.MV l k ∧ c'.LK l k = c.LK l k
theorem CtEq.dom {c c' : Ct} (h : CtEq c c') {ix : Ix} (hx : c'.dom ix) : c.dom ix := by
  unfold Ct.dom at hx ⊢
  rw [h.nv, h.nl] at hx
  rcases hx with hx | hx | ⟨h1, h2, h3⟩
  · exact .inl hx
  · exact .inr (.inl hx)
  · refine .inr (.inr ⟨h1, h2, ?_⟩)
    rw [h.N _ (by omega)] at h3
    exact h3
theorem RdC.congr {w : World} {q : Sp} {y : Ly} {c c' : Ct} (h : RdC w q y c) (e : CtEq c c') : RdC w q y c' := by
  refine ⟨fun ix hx => ?_, h.h0, h.h1, by rw [e.nv]; exact h.vo, ?_, fun l hl => ?_, fun ix hx h1 => ?_⟩
  · rw [e.X ix (e.dom hx)]; exact h.int ix (e.dom hx)
  · rw [e.nl, lcells_congr (y := y) (N := c.N) fun l hl => ⟨rfl, e.N l hl⟩]
    exact h.lo
  · rw [e.nl] at hl
    rw [e.N l hl, mcells_congr (y := y) (MV := c.MV) (LK := c.LK) (l := l) fun k hk => ⟨rfl, e.M l k hl hk⟩]
    exact h.row l hl
  · rw [e.X ix (e.dom hx)]; exact h.len ix (e.dom hx) h1
theorem FrC.congr {w : World} {base : Nat} {q : Sp} {c c' : Ct} (h : FrC w base q c) (e : CtEq c c') : FrC w base q c' := by
  obtain ⟨y, hr, h1, h2, h3, h4⟩ := h
  exact ⟨y, hr.congr e, fun ix b hx hb => h1 ix b (e.dom hx) hb, h2, h3, fun l b hl hb => h4 l b (by rw [← e.nl]; exact hl) hb⟩
/-- The rows of a state. -/
def ct (s : Vs) : Ct where
  X := fun ix => match ix with | (0, 0) => s.st.pc | (0, _ + 1) => s.st.regs | (1, t) => vw s t | (l + 2, k) => ((row5 s l).getD k msZ).view
  nv := s.view.length
  nl := s.list.length
  N := fun l => (row5 s l).length
  MV := fun l k => ((row5 s l).getD k msZ).val
  LK := fun l k => ((row5 s l).getD k msZ).lock
abbrev Sp.hd5 (q : Sp) (s : Vs) : Array Value := #[.slice q.a0 s.st.pc.length q.c0, .slice q.a1 s.st.regs.length q.c1, .slice q.a2 s.view.length q.c2, .slice q.a3 s.list.length q.c3]
abbrev Sp.v5 (q : Sp) (s : Vs) : Value := .agg (q.hd5 s)
def RdV (w : World) (q : Sp) (s : Vs) : Prop := ∃ y, RdC w q y (ct s)
theorem RdV.below {w w' : World} {q : Sp} {s : Vs} (h : RdV w q s) (hb : Below w.heap.size w w') : RdV w' q s := by
  obtain ⟨y, h⟩ := h
  exact ⟨y, h.below hb⟩
theorem FrC.rd {w : World} {base : Nat} {q : Sp} {s : Vs} (h : FrC w base q (ct s)) : RdV w q s := by
  obtain ⟨y, h, _⟩ := h
  exact ⟨y, h⟩
theorem FrC.below {w w' : World} {base : Nat} {q : Sp} {c : Ct} (h : FrC w base q c) (hb : Below w.heap.size w w') : FrC w' base q c := h.keeps (S := fun _ => False) (Keeps.of_below hb) fun _ _ e => e
section
variable {w : World} {q : Sp} {y : Ly} {c : Ct}
theorem dom0 (c : Ct) : c.dom (0, 0) := .inl ⟨rfl, by decide⟩
theorem dom1 (c : Ct) : c.dom (0, 1) := .inl ⟨rfl, by decide⟩
theorem domV {c : Ct} {t : Nat} (h : t < c.nv) : c.dom (1, t) := .inr (.inl ⟨rfl, h⟩)
theorem domM {c : Ct} {l k : Nat} (h : l < c.nl) (hk : k < c.N l) : c.dom (l + 2, k) := .inr (.inr ⟨by simp, by simpa using h, by simpa using hk⟩)
theorem RdC.intAt (h : RdC w q y c) {ix : Ix} (hx : c.dom ix) (hne : 0 < (c.X ix).length) : ∃ b off, (y.I ix).1 = some ⟨b, off, none⟩ ∧ b < w.heap.size ∧ ∀ j x, (c.X ix)[j]? = some x → w.cell? ⟨b, off + j, none⟩ = some (.int .i64 x) := by
  rcases (h.int ix hx).1 with he | ⟨b, off, e, hlt, hc⟩
  · rw [List.map_eq_nil_iff] at he
    rw [he] at hne
    cases hne
  · exact ⟨b, off, e, hlt, fun j x hj => hc j _ (by rw [List.getElem?_map, hj]; rfl)⟩
/-- What a thread sees. -/
theorem RdC.viewAt (h : RdC w q y c) {t : Nat} (ht : t < c.nv) : ∃ b off r ro rc, q.a2 = some ⟨b, off, none⟩ ∧ b < w.heap.size ∧ w.cell? ⟨b, off + t, none⟩ = some (.slice (some ⟨r, ro, none⟩) 3 rc) ∧ (y.I (1, t)).1 = some ⟨r, ro, none⟩ ∧ (y.I (1, t)).2 = rc ∧ r < w.heap.size ∧ ∀ j x, (c.X (1, t))[j]? = some x → w.cell? ⟨r, ro + j, none⟩ = some (.int .i64 x) := by
  obtain ⟨b, off, e, hlt, hc⟩ := h.vo.at t (by rw [vcells_len]; exact ht)
  have hg := vcells_get (y := y) ht
  rw [List.getElem?_eq_getElem (by rw [vcells_len]; exact ht)] at hg
  rw [Option.some.inj hg] at hc
  obtain ⟨r, ro, e2, hlt2, hc2⟩ := h.intAt (domV ht) (by rw [h.len _ (domV ht) (Nat.le_refl _)]; decide)
  rw [e2] at hc
  exact ⟨b, off, r, ro, _, e, hlt, hc, e2, rfl, hlt2, hc2⟩
/-- The writes of a location. -/
theorem RdC.rowAt (h : RdC w q y c) {l : Nat} (hl : l < c.nl) : ∃ b off, q.a3 = some ⟨b, off, none⟩ ∧ b < w.heap.size ∧ w.cell? ⟨b, off + l, none⟩ = some (.slice (y.L l).1 (c.N l) (y.L l).2) ∧ c.N l ≤ (y.L l).2 := by
  obtain ⟨b, off, e, hlt, hc⟩ := h.lo.at l (by rw [lcells_len]; exact hl)
  have hg := lcells_get (y := y) (N := c.N) hl
  rw [List.getElem?_eq_getElem (by rw [lcells_len]; exact hl)] at hg
  rw [Option.some.inj hg] at hc
  exact ⟨b, off, e, hlt, hc, (h.row l hl).2⟩
theorem RdC.msgAt (h : RdC w q y c) {l k : Nat} (hl : l < c.nl) (hk : k < c.N l) : ∃ r ro m mo, (y.L l).1 = some ⟨r, ro, none⟩ ∧ r < w.heap.size ∧ w.cell? ⟨r, ro + k * 3, none⟩ = some (.int .i64 (c.MV l k)) ∧ w.cell? ⟨r, ro + k * 3 + 1, none⟩ = some (.bool (c.LK l k)) ∧ w.cell? ⟨r, ro + k * 3 + 2, none⟩ = some (.slice (some ⟨m, mo, none⟩) 3 (y.I (l + 2, k)).2) ∧
    (y.I (l + 2, k)).1 = some ⟨m, mo, none⟩ ∧ m < w.heap.size ∧ ∀ j x, (c.X (l + 2, k))[j]? = some x → w.cell? ⟨m, mo + j, none⟩ = some (.int .i64 x) := by
  obtain ⟨m, mo, e2, hlt2, hc2⟩ := h.intAt (domM hl hk) (by rw [h.len _ (domM hl hk) (by simp)]; decide)
  rcases (h.row l hl).1 with he | ⟨r, ro, e, hlt, hc⟩
  · have := congrArg List.length he
    rw [mcells_len] at this
    simp at this
    omega
  · have g := fun j (hj : j < 3) => hc (k * 3 + j) _ (mcells_get (y := y) (MV := c.MV) (LK := c.LK) (l := l) hk hj)
    have g0 := g 0 (by decide)
    have g1 := g 1 (by decide)
    have g2 := g 2 (by decide)
    unfold mcell at g2
    simp only [show ¬ (2 = 0) by decide, show ¬ (2 = 1) by decide, if_false, e2] at g2
    exact ⟨r, ro, m, mo, e, hlt, g0, g1, g2, e2, hlt2, hc2⟩
end
end Go.Proofs.Ythlmfjoiicnomaa
