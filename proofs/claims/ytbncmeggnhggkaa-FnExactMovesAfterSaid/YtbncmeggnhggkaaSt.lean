/-
  PROVED HERE: plain facts on states of machines with one memory: what a step turns, and that states stay well formed. CONDITIONS: as each lemma states.
-/
import Derived.Test.YtbncmeggnhggkaaFct
namespace Go.Proofs.Ytbncmeggnhggkaa
open Go.RowKit
set_option linter.unusedVariables false
set_option linter.unusedSimpArgs false

/-- A state: how far threads are, registers, memory, and what is buffered (locations and values). -/
structure St where
  pc : List Int
  regs : List Int
  mem : List Int
  buf : List (List (Int × Int))
/-- The next instruction of a thread. -/
def nxt (p : Prg) (s : St) (t : Nat) : Ins := (p.getD t []).getD (s.pc.getD t 0).toNat insZ
/-- The thread is not done. -/
def goes (p : Prg) (s : St) (t : Nat) : Bool := decide (s.pc.getD t 0 < ((p.getD t []).length : Int))
/-- The value that an instruction writes. -/
def wval (s : St) (t : Nat) (x : Ins) : Int := if x.op = 3 then s.regs.getD (t * 3 + x.reg.toNat) 0 else x.val
def do3 (p : Prg) (s : St) (t : Nat) : St :=
  { pc := s.pc.set t (s.pc.getD t 0 + 1)
    regs := if insReads (nxt p s t) then s.regs.set (t * 3 + (nxt p s t).reg.toNat) (s.mem.getD (nxt p s t).loc.toNat 0) else s.regs
    mem := if insWrites (nxt p s t) then s.mem.set (nxt p s t).loc.toNat (wval s t (nxt p s t)) else s.mem
    buf := s.buf }
def done3 (p : Prg) (s : St) : Bool := (List.range p.length).all fun t => !goes p s t
def out3 (s : St) : List Int := s.regs ++ s.mem
def start3 (p : Prg) (n : Nat) : St := ⟨List.replicate p.length 0, List.replicate (p.length * 3) 0, List.replicate 3 0, List.replicate n []⟩
def moves3 (p : Prg) (s : St) : List Int := ((List.range p.length).filter (goes p s)).map fun (t : Nat) => (t : Int)

/-- The state is well formed for the program. -/
structure Good (p : Prg) (s : St) : Prop where
  pcl : s.pc.length = p.length
  regl : s.regs.length = p.length * 3
  meml : s.mem.length = 3
  pcb : ∀ (t : Nat) xs, p[t]? = some xs → ∃ k : Nat, s.pc[t]? = some (k : Int) ∧ k ≤ xs.length
  regb : ∀ x ∈ s.regs, 0 ≤ x ∧ x ≤ 3
  memb : ∀ x ∈ s.mem, 0 ≤ x ∧ x ≤ 3

theorem nxt_of {p : Prg} {s : St} {t k : Nat} {xs : List Ins} {x : Ins} (hp : p[t]? = some xs) (hk : s.pc[t]? = some (k : Int)) (hx : xs[k]? = some x) : nxt p s t = x := by
  unfold nxt
  simp [List.getD, hp, hk, hx]
theorem goes_of {p : Prg} {s : St} {t k : Nat} {xs : List Ins} (hp : p[t]? = some xs) (hk : s.pc[t]? = some (k : Int)) : goes p s t = decide (k < xs.length) := by
  unfold goes
  simp [List.getD, hp, hk]
/-- What a valid instruction holds. -/
theorem valid_all {x : Ins} (h : insValid x = true) : (0 ≤ x.loc ∧ x.loc ≤ 2) ∧ (0 ≤ x.reg ∧ x.reg ≤ 2) ∧ (0 ≤ x.val ∧ x.val ≤ 3) ∧ (1 ≤ x.op ∧ x.op ≤ 5) := by
  unfold insValid in01 at h
  repeat' split at h
  all_goals simp at h
  all_goals omega
theorem valid_loc {x : Ins} (h : insValid x = true) : ∃ l : Nat, x.loc = l ∧ l ≤ 2 := ⟨x.loc.toNat, by have := valid_all h; omega, by have := valid_all h; omega⟩
theorem valid_reg {x : Ins} (h : insValid x = true) : ∃ r : Nat, x.reg = r ∧ r ≤ 2 := ⟨x.reg.toNat, by have := valid_all h; omega, by have := valid_all h; omega⟩
theorem valid_val {x : Ins} (h : insValid x = true) : 0 ≤ x.val ∧ x.val ≤ 3 := (valid_all h).2.2.1
theorem valid_op {x : Ins} (h : insValid x = true) : 1 ≤ x.op ∧ x.op ≤ 5 := (valid_all h).2.2.2
theorem reg_lt {p : Prg} {t r : Nat} {xs : List Ins} (hp : p[t]? = some xs) (hr : r ≤ 2) : t * 3 + r < p.length * 3 := by
  have := (List.getElem?_eq_some_iff.1 hp).1
  omega
/-- A thread that is not done: its place, its next instruction. -/
theorem Good.next {p : Prg} {s : St} (h : Good p s) (hv : Shape p) {t : Nat} (hg : goes p s t = true) : ∃ xs k x, p[t]? = some xs ∧ s.pc[t]? = some ((k : Nat) : Int) ∧ xs[k]? = some x ∧ insValid x = true ∧ nxt p s t = x ∧ k < 7 := by
  have ht : t < p.length := by
    unfold goes at hg
    simp only [decide_eq_true_eq, List.getD_eq_getElem?_getD] at hg
    by_cases ht : t < p.length
    · exact ht
    · have e1 : p[t]? = none := List.getElem?_eq_none (by omega)
      have e2 : s.pc[t]? = none := List.getElem?_eq_none (by rw [h.pcl]; omega)
      rw [e1, e2] at hg
      simp at hg
  obtain ⟨xs, hx⟩ : ∃ xs, p[t]? = some xs := ⟨_, List.getElem?_eq_getElem ht⟩
  obtain ⟨k, hk, hkl⟩ := h.pcb t xs hx
  rw [goes_of hx hk, decide_eq_true_eq] at hg
  obtain ⟨x, he⟩ : ∃ x, xs[k]? = some x := ⟨_, List.getElem?_eq_getElem hg⟩
  have h7 := hv.row t xs hx
  exact ⟨xs, k, x, hx, hk, he, hv.ins t xs hx k x he, nxt_of hx hk he, by omega⟩
theorem getD_mem_or {xs : List Int} {k : Nat} : xs.getD k 0 = 0 ∨ xs.getD k 0 ∈ xs := by
  rw [List.getD_eq_getElem?_getD]
  cases h : xs[k]? with
  | none => exact .inl rfl
  | some v => exact .inr (List.mem_of_getElem? h)
theorem Good.regv {p : Prg} {s : St} (h : Good p s) (k : Nat) : 0 ≤ s.regs.getD k 0 ∧ s.regs.getD k 0 ≤ 3 := by
  rcases getD_mem_or (xs := s.regs) (k := k) with e | e
  · rw [e]; omega
  · exact h.regb _ e
theorem Good.memv {p : Prg} {s : St} (h : Good p s) (k : Nat) : 0 ≤ s.mem.getD k 0 ∧ s.mem.getD k 0 ≤ 3 := by
  rcases getD_mem_or (xs := s.mem) (k := k) with e | e
  · rw [e]; omega
  · exact h.memb _ e
theorem Good.wv {p : Prg} {s : St} (h : Good p s) {t : Nat} {x : Ins} (hv : insValid x = true) : 0 ≤ wval s t x ∧ wval s t x ≤ 3 := by
  unfold wval
  split
  · exact h.regv _
  · exact valid_val hv
theorem set_bd {xs : List Int} {k : Nat} {v : Int} (h : ∀ x ∈ xs, 0 ≤ x ∧ x ≤ 3) (hv : 0 ≤ v ∧ v ≤ 3) : ∀ x ∈ xs.set k v, 0 ≤ x ∧ x ≤ 3 := by
  intro x hx
  rcases List.mem_or_eq_of_mem_set hx with e | e
  · exact h x e
  · rw [e]; exact hv
theorem pcb_step {p : Prg} {s : St} (h : Good p s) {t k : Nat} {xs : List Ins} {x : Ins} (hp : p[t]? = some xs) (hk : s.pc[t]? = some (k : Int)) (hx : xs[k]? = some x) :
    ∀ (i : Nat) ys, p[i]? = some ys → ∃ j : Nat, (s.pc.set t (s.pc.getD t 0 + 1))[i]? = some (j : Int) ∧ j ≤ ys.length := by
  intro i ys hy
  have ht : t < s.pc.length := by have := (List.getElem?_eq_some_iff.1 hk).1; omega
  by_cases e : t = i
  · subst e
    rw [hp] at hy; cases hy
    refine ⟨k + 1, ?_, (List.getElem?_eq_some_iff.1 hx).1⟩
    rw [List.getElem?_set_self ht, List.getD_eq_getElem?_getD, hk]
    simp
  · rw [List.getElem?_set_ne e]
    exact h.pcb i ys hy
theorem Good.do3 {p : Prg} {s : St} (h : Good p s) (hv : Shape p) {t : Nat} (hg : goes p s t = true) : Good p (do3 p s t) := by
  obtain ⟨xs, k, x, hp, hk, hx, hiv, hn, _⟩ := h.next hv hg
  refine ⟨?_, ?_, ?_, pcb_step h hp hk hx, ?_, ?_⟩
  · simp [Proofs.Ytbncmeggnhggkaa.do3, h.pcl]
  · unfold Proofs.Ytbncmeggnhggkaa.do3; dsimp only; split <;> simp [h.regl]
  · unfold Proofs.Ytbncmeggnhggkaa.do3; dsimp only; split <;> simp [h.meml]
  · unfold Proofs.Ytbncmeggnhggkaa.do3; dsimp only
    split
    · exact set_bd h.regb (h.memv _)
    · exact h.regb
  · unfold Proofs.Ytbncmeggnhggkaa.do3; dsimp only
    split
    · rw [hn]; exact set_bd h.memb (h.wv hiv)
    · exact h.memb
theorem good_start (p : Prg) (n : Nat) : Good p (start3 p n) := by
  refine ⟨by simp [start3], by simp [start3], by simp [start3], fun t xs hx => ⟨0, ?_, by omega⟩, fun x hx => ?_, fun x hx => ?_⟩
  · have := (List.getElem?_eq_some_iff.1 hx).1
    simp [start3, List.getElem?_replicate, this]
  · have := (List.mem_replicate.1 hx).2; omega
  · have := (List.mem_replicate.1 hx).2; omega

/-- Steps of a machine: where all of them are possible. -/
def follow {σ : Type} (mv : σ → List Int) (st : σ → Int → σ) : σ → List Int → Option σ
  | s, [] => some s
  | s, m :: ms => if m ∈ mv s then follow mv st (st s m) ms else none
theorem mem_moves3 {p : Prg} {s : St} (m : Int) : m ∈ moves3 p s ↔ ∃ t : Nat, m = t ∧ t < p.length ∧ goes p s t = true := by
  unfold moves3
  simp only [List.mem_map, List.mem_filter, List.mem_range]
  constructor
  · rintro ⟨t, ⟨h1, h2⟩, rfl⟩; exact ⟨t, rfl, h1, h2⟩
  · rintro ⟨t, rfl, h1, h2⟩; exact ⟨t, ⟨h1, h2⟩, rfl⟩
end Go.Proofs.Ytbncmeggnhggkaa
