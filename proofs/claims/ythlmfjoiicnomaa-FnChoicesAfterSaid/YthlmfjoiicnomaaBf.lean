/-
  PROVED HERE: append of one element to a row of the call's own. plain facts on states of machines with one memory: what a step turns, and that states stay well formed. words for a result of numbers and a flag; plain facts on steps of a machine. plain facts on states of machines with store buffers. plain facts on moves with store buffers: what is left after a move, that a program does not get stuck, that moves stand in ascending order. CONDITIONS: as each theorem states.
-/
import Derived.Test.YthlmfjoiicnomaaPrg
import Derived.Test.YthlmfjoiicnomaaFct
namespace Go.Proofs.Ythlmfjoiicnomaa
open Go.RowKit
set_option linter.unusedVariables false
set_option linter.unusedSimpArgs false

theorem own_none (w : World) (base e size : Nat) : w.ownsRow base e size (.slice none 0 0) 0 [] := World.ownsRow_nil w base e size
theorem own_lit0 (w : World) (base e size : Nat) (h : base ≤ w.heap.size) : (w.alloc (.cells #[] e)).ownsRow base e size (.slice (some ⟨w.heap.size, 0, none⟩) 0 0) 0 [] :=
  World.ownsRow_made w #[] 0 h (by decide) (by simp)

/-- Append of one element of size cells, which lie at an address. -/
theorem wpList_append_el {P : Program} {ops : Array Oper} {Q : Exit → Act → World → Prop} {a : Act} {w : World} {o : Oper} {rest : List Oper} (hgd : o.guard = none) (s x : Operand) (t : TypeId)
    (ho : o.op = .call { callee := .builtin .append, args := #[s, x], argTypes := #[t, t] })
    (base : Nat) (e : TypeId) (z : Value) (size bytes : Nat) (ht : P.underlying t = some (.slice e)) (hi : (P.info? e).map (fun i => (i.zero, i.size, i.bytes)) = some (some z, size, bytes)) (hzs : z.cells.size = size) (hsz : 0 < size)
    (v : Value) (n : Nat) (xs : List Value) (hs : a.eval s = v) (hown : w.ownsRow base e size v n xs)
    (ad : Addr) (us : List Value) (hx : a.eval x = .slice (some ad) 1 1) (hl : us.length = size) (hu : ∀ j u, us[j]? = some u → w.cell? (ad.add j) = some u) (h1 : ∀ u ∈ us, u.oneCell' = true)
    (h63 : n + 1 ≤ 1000000000) (hbytes : bytes ≤ 1000) (hbase : base ≤ w.heap.size)
    (h : ∀ v' w', w'.ownsRow base e size v' (n + 1) (xs ++ us) → w.grownBy w' v.ownBlock → wpList P ops Q rest (a.put o.dst v') w') : wpList P ops Q (o :: rest) a w := by
  obtain ⟨i, h2, hz, h3, h4⟩ := info_parts hi
  refine wpList_append_own _ hgd s x t ho base e i z size bytes ht h2 hz h3 h4 hzs hsz v n xs hs hown ad 1 1 us hx (by rw [hl, Nat.one_mul]) hu h1 (by unfold maxLen; omega) ?_ hbase fun v' w' h2 h3 _ => h v' w' h2 h3
  have : (n + 1) * bytes ≤ 1000000000 * 1000 := Nat.mul_le_mul h63 hbytes
  omega
/-- Append of one cell that has just been laid in a block of its own. -/
theorem wpList_append_one {P : Program} {ops : Array Oper} {Q : Exit → Act → World → Prop} {a : Act} {w : World} {o : Oper} {rest : List Oper} (hgd : o.guard = none) (s x : Operand) (t : TypeId)
    (ho : o.op = .call { callee := .builtin .append, args := #[s, x], argTypes := #[t, t] })
    (base : Nat) (e : TypeId) (z : Value) (bytes : Nat) (ht : P.underlying t = some (.slice e)) (hi : (P.info? e).map (fun i => (i.zero, i.size, i.bytes)) = some (some z, 1, bytes)) (hzs : z.cells.size = 1)
    (v : Value) (n : Nat) (xs : List Value) (hs : a.eval s = v) (hown : w.ownsRow base e 1 v n xs)
    (ad : Addr) (u : Value) (hx : a.eval x = .slice (some ad) 1 1) (hu : w.cell? ad = some u) (h1 : u.oneCell' = true)
    (h63 : n + 1 ≤ 1000000000) (hbytes : bytes ≤ 1000) (hbase : base ≤ w.heap.size)
    (h : ∀ v' w', w'.ownsRow base e 1 v' (n + 1) (xs ++ [u]) → w.grownBy w' v.ownBlock → wpList P ops Q rest (a.put o.dst v') w') : wpList P ops Q (o :: rest) a w :=
  wpList_append_el hgd s x t ho base e z 1 bytes ht hi hzs (by omega) v n xs hs hown ad [u] hx rfl (fun j u' hj => by
    match j, hj with
    | 0, hj => simp at hj; subst hj; simpa [Addr.add] using hu) (by simpa using h1) h63 hbytes hbase h
end Go.Proofs.Ythlmfjoiicnomaa
namespace Go.Proofs.Ythlmfjoiicnomaa
open Go.RowKit
set_option linter.unusedVariables false
set_option linter.unusedSimpArgs false

/-- A state: how far threads are, registers, memory, and what is buffered (locations and values). -/
structure St where
  pc : List Int
  regs : List Int
  mem : List Int
  buf : List (List (Int × Int))
/-- The next instruction of a thread. -/
def nxt (p : Prg) (s : St) (t : Nat) : Ins := (p.getD t []).getD (s.pc.getD t 0).toNat insZ
/-- The thread is not done. -/
def goes (p : Prg) (s : St) (t : Nat) : Bool := decide (s.pc.getD t 0 < ((p.getD t []).length : Int))
/-- The value that an instruction writes. -/
def wval (s : St) (t : Nat) (x : Ins) : Int := if x.op = 3 then s.regs.getD (t * 3 + x.reg.toNat) 0 else x.val
def do3 (p : Prg) (s : St) (t : Nat) : St :=
  { pc := s.pc.set t (s.pc.getD t 0 + 1)
    regs := if insReads (nxt p s t) then s.regs.set (t * 3 + (nxt p s t).reg.toNat) (s.mem.getD (nxt p s t).loc.toNat 0) else s.regs
    mem := if insWrites (nxt p s t) then s.mem.set (nxt p s t).loc.toNat (wval s t (nxt p s t)) else s.mem
    buf := s.buf }
def done3 (p : Prg) (s : St) : Bool := (List.range p.length).all fun t => !goes p s t
def out3 (s : St) : List Int := s.regs ++ s.mem
def start3 (p : Prg) (n : Nat) : St := ⟨List.replicate p.length 0, List.replicate (p.length * 3) 0, List.replicate 3 0, List.replicate n []⟩
def moves3 (p : Prg) (s : St) : List Int := ((List.range p.length).filter (goes p s)).map fun (t : Nat) => (t : Int)

/-- The state is well formed for the program. -/
structure Good (p : Prg) (s : St) : Prop where
  pcl : s.pc.length = p.length
  regl : s.regs.length = p.length * 3
  meml : s.mem.length = 3
  pcb : ∀ (t : Nat) xs, p[t]? = some xs → ∃ k : Nat, s.pc[t]? = some (k : Int) ∧ k ≤ xs.length
  regb : ∀ x ∈ s.regs, 0 ≤ x ∧ x ≤ 3
  memb : ∀ x ∈ s.mem, 0 ≤ x ∧ x ≤ 3

theorem nxt_of {p : Prg} {s : St} {t k : Nat} {xs : List Ins} {x : Ins} (hp : p[t]? = some xs) (hk : s.pc[t]? = some (k : Int)) (hx : xs[k]? = some x) : nxt p s t = x := by
  unfold nxt
  simp [List.getD, hp, hk, hx]
theorem goes_of {p : Prg} {s : St} {t k : Nat} {xs : List Ins} (hp : p[t]? = some xs) (hk : s.pc[t]? = some (k : Int)) : goes p s t = decide (k < xs.length) := by
  unfold goes
  simp [List.getD, hp, hk]
/-- What a valid instruction holds. -/
theorem valid_all {x : Ins} (h : insValid x = true) : (0 ≤ x.loc ∧ x.loc ≤ 2) ∧ (0 ≤ x.reg ∧ x.reg ≤ 2) ∧ (0 ≤ x.val ∧ x.val ≤ 3) ∧ (1 ≤ x.op ∧ x.op ≤ 5) := by
  unfold insValid in01 at h
  repeat' split at h
  all_goals simp at h
  all_goals omega
theorem valid_loc {x : Ins} (h : insValid x = true) : ∃ l : Nat, x.loc = l ∧ l ≤ 2 := ⟨x.loc.toNat, by have := valid_all h; omega, by have := valid_all h; omega⟩
theorem valid_reg {x : Ins} (h : insValid x = true) : ∃ r : Nat, x.reg = r ∧ r ≤ 2 := ⟨x.reg.toNat, by have := valid_all h; omega, by have := valid_all h; omega⟩
theorem valid_val {x : Ins} (h : insValid x = true) : 0 ≤ x.val ∧ x.val ≤ 3 := (valid_all h).2.2.1
theorem valid_op {x : Ins} (h : insValid x = true) : 1 ≤ x.op ∧ x.op ≤ 5 := (valid_all h).2.2.2
theorem reg_lt {p : Prg} {t r : Nat} {xs : List Ins} (hp : p[t]? = some xs) (hr : r ≤ 2) : t * 3 + r < p.length * 3 := by
  have := (List.getElem?_eq_some_iff.1 hp).1
  omega
/-- A thread that is not done: its place, its next instruction. -/
theorem Good.next {p : Prg} {s : St} (h : Good p s) (hv : Shape p) {t : Nat} (hg : goes p s t = true) : ∃ xs k x, p[t]? = some xs ∧ s.pc[t]? = some ((k : Nat) : Int) ∧ xs[k]? = some x ∧ insValid x = true ∧ nxt p s t = x ∧ k < 7 := by
  have ht : t < p.length := by
    unfold goes at hg
    simp only [decide_eq_true_eq, List.getD_eq_getElem?_getD] at hg
    by_cases ht : t < p.length
    · exact ht
    · have e1 : p[t]? = none := List.getElem?_eq_none (by omega)
      have e2 : s.pc[t]? = none := List.getElem?_eq_none (by rw [h.pcl]; omega)
      rw [e1, e2] at hg
      simp at hg
  obtain ⟨xs, hx⟩ : ∃ xs, p[t]? = some xs := ⟨_, List.getElem?_eq_getElem ht⟩
  obtain ⟨k, hk, hkl⟩ := h.pcb t xs hx
  rw [goes_of hx hk, decide_eq_true_eq] at hg
  obtain ⟨x, he⟩ : ∃ x, xs[k]? = some x := ⟨_, List.getElem?_eq_getElem hg⟩
  have h7 := hv.row t xs hx
  exact ⟨xs, k, x, hx, hk, he, hv.ins t xs hx k x he, nxt_of hx hk he, by omega⟩
theorem getD_mem_or {xs : List Int} {k : Nat} : xs.getD k 0 = 0 ∨ xs.getD k 0 ∈ xs := by
  rw [List.getD_eq_getElem?_getD]
  cases h : xs[k]? with
  | none => exact .inl rfl
  | some v => exact .inr (List.mem_of_getElem? h)
theorem Good.regv {p : Prg} {s : St} (h : Good p s) (k : Nat) : 0 ≤ s.regs.getD k 0 ∧ s.regs.getD k 0 ≤ 3 := by
  rcases getD_mem_or (xs := s.regs) (k := k) with e | e
  · rw [e]; omega
  · exact h.regb _ e
theorem Good.memv {p : Prg} {s : St} (h : Good p s) (k : Nat) : 0 ≤ s.mem.getD k 0 ∧ s.mem.getD k 0 ≤ 3 := by
  rcases getD_mem_or (xs := s.mem) (k := k) with e | e
  · rw [e]; omega
  · exact h.memb _ e
theorem Good.wv {p : Prg} {s : St} (h : Good p s) {t : Nat} {x : Ins} (hv : insValid x = true) : 0 ≤ wval s t x ∧ wval s t x ≤ 3 := by
  unfold wval
  split
  · exact h.regv _
  · exact valid_val hv
theorem set_bd {xs : List Int} {k : Nat} {v : Int} (h : ∀ x ∈ xs, 0 ≤ x ∧ x ≤ 3) (hv : 0 ≤ v ∧ v ≤ 3) : ∀ x ∈ xs.set k v, 0 ≤ x ∧ x ≤ 3 := by
  intro x hx
  rcases List.mem_or_eq_of_mem_set hx with e | e
  · exact h x e
  · rw [e]; exact hv
theorem pcb_step {p : Prg} {s : St} (h : Good p s) {t k : Nat} {xs : List Ins} {x : Ins} (hp : p[t]? = some xs) (hk : s.pc[t]? = some (k : Int)) (hx : xs[k]? = some x) :
    ∀ (i : Nat) ys, p[i]? = some ys → ∃ j : Nat, (s.pc.set t (s.pc.getD t 0 + 1))[i]? = some (j : Int) ∧ j ≤ ys.length := by
  intro i ys hy
  have ht : t < s.pc.length := by have := (List.getElem?_eq_some_iff.1 hk).1; omega
  by_cases e : t = i
  · subst e
    rw [hp] at hy; cases hy
    refine ⟨k + 1, ?_, (List.getElem?_eq_some_iff.1 hx).1⟩
    rw [List.getElem?_set_self ht, List.getD_eq_getElem?_getD, hk]
    simp
  · rw [List.getElem?_set_ne e]
    exact h.pcb i ys hy
theorem Good.do3 {p : Prg} {s : St} (h : Good p s) (hv : Shape p) {t : Nat} (hg : goes p s t = true) : Good p (do3 p s t) := by
  obtain ⟨xs, k, x, hp, hk, hx, hiv, hn, _⟩ := h.next hv hg
  refine ⟨?_, ?_, ?_, pcb_step h hp hk hx, ?_, ?_⟩
  · simp [Proofs.Ythlmfjoiicnomaa.do3, h.pcl]
  · unfold Proofs.Ythlmfjoiicnomaa.do3; dsimp only; split <;> simp [h.regl]
  · unfold Proofs.Ythlmfjoiicnomaa.do3; dsimp only; split <;> simp [h.meml]
  · unfold Proofs.Ythlmfjoiicnomaa.do3; dsimp only
    split
    · exact set_bd h.regb (h.memv _)
    · exact h.regb
  · unfold Proofs.Ythlmfjoiicnomaa.do3; dsimp only
    split
    · rw [hn]; exact set_bd h.memb (h.wv hiv)
    · exact h.memb
theorem good_start (p : Prg) (n : Nat) : Good p (start3 p n) := by
  refine ⟨by simp [start3], by simp [start3], by simp [start3], fun t xs hx => ⟨0, ?_, by omega⟩, fun x hx => ?_, fun x hx => ?_⟩
  · have := (List.getElem?_eq_some_iff.1 hx).1
    simp [start3, List.getElem?_replicate, this]
  · have := (List.mem_replicate.1 hx).2; omega
  · have := (List.mem_replicate.1 hx).2; omega

/-- Steps of a machine: where all of them are possible. -/
def follow {σ : Type} (mv : σ → List Int) (st : σ → Int → σ) : σ → List Int → Option σ
  | s, [] => some s
  | s, m :: ms => if m ∈ mv s then follow mv st (st s m) ms else none
theorem mem_moves3 {p : Prg} {s : St} (m : Int) : m ∈ moves3 p s ↔ ∃ t : Nat, m = t ∧ t < p.length ∧ goes p s t = true := by
  unfold moves3
  simp only [List.mem_map, List.mem_filter, List.mem_range]
  constructor
  · rintro ⟨t, ⟨h1, h2⟩, rfl⟩; exact ⟨t, rfl, h1, h2⟩
  · rintro ⟨t, rfl, h1, h2⟩; exact ⟨t, ⟨h1, h2⟩, rfl⟩
end Go.Proofs.Ythlmfjoiicnomaa
namespace Go.Proofs.Ythlmfjoiicnomaa
open Go.RowKit
set_option linter.unusedVariables false
set_option linter.unusedSimpArgs false

abbrev RetLB (w : World) (r : List Int × Bool) (e : Ending) (w' : World) : Prop :=
  ∃ a cap, e = .returned (.tuple #[.slice a r.1.length cap, .bool r.2]) ∧ OwI w' w.heap.size a cap r.1 ∧ Below w.heap.size w w'
abbrev RetL (w : World) (r : List Int) (e : Ending) (w' : World) : Prop :=
  ∃ a cap, e = .returned (.slice a r.length cap) ∧ OwI w' w.heap.size a cap r ∧ Below w.heap.size w w'
/-- The empty literal and false. -/
theorem retLB_lit {w w1 : World} (hb : Below w.heap.size w w1) : RetLB w ([], false) (.returned (.tuple #[.slice (some ⟨w1.heap.size, 0, none⟩) 0 0, .bool false])) (w1.alloc (.cells #[] 3)) :=
  ⟨_, 0, rfl, own_lit0 w1 _ _ 1 hb.size, hb.alloc hb.size _⟩
theorem retLB_nil {w w1 : World} (hb : Below w.heap.size w w1) : RetLB w ([], false) (.returned (.tuple #[.slice none 0 0, .bool false])) w1 :=
  ⟨none, 0, rfl, own_none w1 _ _ 1, hb⟩

theorem follow_append {σ : Type} (mv : σ → List Int) (st : σ → Int → σ) : ∀ (xs ys : List Int) (s : σ), follow mv st s (xs ++ ys) = (follow mv st s xs).bind fun s' => follow mv st s' ys
  | [], ys, s => rfl
  | x :: xs, ys, s => by
    simp only [List.cons_append, follow]
    split
    · exact follow_append mv st xs ys _
    · rfl
theorem follow_one {σ : Type} (mv : σ → List Int) (st : σ → Int → σ) (s : σ) (m : Int) : follow mv st s [m] = if m ∈ mv s then some (st s m) else none := by
  simp [follow]
theorem take_snoc {xs : List Int} {k : Nat} {x : Int} (h : xs[k]? = some x) : xs.take (k + 1) = xs.take k ++ [x] := by
  rw [List.take_add_one, h]; rfl
theorem follow_step {σ : Type} {mv : σ → List Int} {st : σ → Int → σ} {s0 s : σ} {xs : List Int} {k : Nat} {x : Int} (h : follow mv st s0 (xs.take k) = some s) (hx : xs[k]? = some x) (hm : x ∈ mv s) : follow mv st s0 (xs.take (k + 1)) = some (st s x) := by
  rw [take_snoc hx, follow_append, h, Option.bind_some, follow_one, if_pos hm]
theorem follow_stop {σ : Type} {mv : σ → List Int} {st : σ → Int → σ} {s0 s : σ} {xs : List Int} {k : Nat} {x : Int} (h : follow mv st s0 (xs.take k) = some s) (hx : xs[k]? = some x) (hm : x ∉ mv s) : follow mv st s0 xs = none := by
  have e : xs = xs.take (k + 1) ++ xs.drop (k + 1) := (List.take_append_drop _ _).symm
  rw [e, follow_append, take_snoc hx, follow_append, h, Option.bind_some, follow_one, if_neg hm]
  rfl
theorem follow_all {σ : Type} {mv : σ → List Int} {st : σ → Int → σ} {s0 s : σ} {xs : List Int} {k : Nat} (h : follow mv st s0 (xs.take k) = some s) (hk : xs.length ≤ k) : follow mv st s0 xs = some s := by
  rwa [List.take_of_length_le hk] at h
/-- The result of a run: the outcome if all steps are possible and the program is done. -/
def runRes {σ : Type} (done : σ → Bool) (out : σ → List Int) : Option σ → List Int × Bool
  | some s => if done s then (out s, true) else ([], false)
  | none => ([], false)
def seqRun (p : Prg) (ms : List Int) : Option St := follow (moves3 p) (fun s m => do3 p s m.toNat) (start3 p 0) ms
def runSch (p : Prg) (ms : List Int) : List Int × Bool := if progValid p then runRes (done3 p) out3 (seqRun p ms) else ([], false)
theorem out3_len {p : Prg} {s : St} (h : Good p s) (hv : Shape p) : (out3 s).length ≤ 12 := by
  have := hv.len
  simp [out3, h.regl, h.meml]; omega
theorem follow_good {p : Prg} {mv : St → List Int} {st : St → Int → St} (hst : ∀ s m, Good p s → m ∈ mv s → Good p (st s m)) : ∀ (ms : List Int) (s s' : St), Good p s → follow mv st s ms = some s' → Good p s'
  | [], s, s', h, e => by simp [follow] at e; rw [← e]; exact h
  | m :: ms, s, s', h, e => by
    simp only [follow] at e
    split at e
    · exact follow_good hst ms _ _ (hst s m h (by assumption)) e
    · cases e
theorem seq_good {p : Prg} (hv : Shape p) (s : St) (m : Int) (h : Good p s) (hm : m ∈ moves3 p s) : Good p (do3 p s m.toNat) := by
  obtain ⟨t, rfl, _, ht⟩ := (mem_moves3 m).1 hm
  exact h.do3 hv (by simpa using ht)
theorem runSch_len (p : Prg) (ms : List Int) : (runSch p ms).1.length ≤ 1048576 := by
  unfold runSch
  split
  · rename_i hv
    have hsh := (valid_of hv).toShape
    unfold runRes
    split
    · rename_i s hs
      split
      · have := out3_len (follow_good (seq_good hsh) _ _ _ (good_start p 0) hs) hsh
        dsimp only
        omega
      · simp
    · simp
  · simp
end Go.Proofs.Ythlmfjoiicnomaa
namespace Go.Proofs.Ythlmfjoiicnomaa
open Go.RowKit
set_option linter.unusedVariables false
set_option linter.unusedSimpArgs false

/-- How many buffers a thread has; the buffer for a location. -/
def nb (split : Bool) : Nat := if split then 3 else 1
def place (t loc : Nat) (split : Bool) : Nat := if split then t * 3 + loc else t
def row4 (s : St) (b : Nat) : List (Int × Int) := s.buf.getD b []
def empty4 (s : St) (t : Nat) (split : Bool) : Bool := (List.range (nb split)).all fun i => (row4 s (t * nb split + i)).isEmpty
/-- The value of a location in a buffer, if it is there. -/
def inBuf (r : List (Int × Int)) (loc : Int) : Option Int := (r.reverse.find? fun e => e.1 == loc).map (·.2)
def seen4 (s : St) (t loc : Nat) (split : Bool) : Int := (inBuf (row4 s (place t loc split)) loc).getD (s.mem.getD loc 0)
def waits4 (x : Ins) : Bool := (x.op == 4) || (x.op == 5)
def ready4 (p : Prg) (s : St) (split : Bool) (t : Nat) : Bool := goes p s t && (!waits4 (nxt p s t) || empty4 s t split)
def can4 (p : Prg) (s : St) (split : Bool) (m : Nat) : Bool := if m < p.length then ready4 p s split m else !(row4 s (m - p.length)).isEmpty
def moves4 (p : Prg) (s : St) (split : Bool) : List Int := ((List.range (p.length + s.buf.length)).filter (can4 p s split)).map fun (m : Nat) => (m : Int)
/-- A write leaves a buffer. -/
def flush4 (p : Prg) (s : St) (b : Nat) : St :=
  { s with mem := s.mem.set (((row4 s b).headD (0, 0)).1.toNat) ((row4 s b).headD (0, 0)).2, buf := s.buf.set b (row4 s b).tail }
def do4 (p : Prg) (s : St) (split : Bool) (m : Nat) : St :=
  if m < p.length then
    if waits4 (nxt p s m) then do3 p s m
    else if (nxt p s m).op = 1 then { s with pc := s.pc.set m (s.pc.getD m 0 + 1), regs := s.regs.set (m * 3 + (nxt p s m).reg.toNat) (seen4 s m (nxt p s m).loc.toNat split) }
    else { s with pc := s.pc.set m (s.pc.getD m 0 + 1), buf := s.buf.set (place m (nxt p s m).loc.toNat split) (row4 s (place m (nxt p s m).loc.toNat split) ++ [((nxt p s m).loc, wval s m (nxt p s m))]) }
  else flush4 p s (m - p.length)
def done4 (p : Prg) (s : St) : Bool := s.buf.all (·.isEmpty) && done3 p s
def start4 (p : Prg) (split : Bool) : St := start3 p (p.length * nb split)
theorem mem_moves4 {p : Prg} {s : St} {split : Bool} (m : Int) : m ∈ moves4 p s split ↔ ∃ k : Nat, m = k ∧ k < p.length + s.buf.length ∧ can4 p s split k = true := by
  unfold moves4
  simp only [List.mem_map, List.mem_filter, List.mem_range]
  constructor
  · rintro ⟨t, ⟨h1, h2⟩, rfl⟩; exact ⟨t, rfl, h1, h2⟩
  · rintro ⟨t, rfl, h1, h2⟩; exact ⟨t, ⟨h1, h2⟩, rfl⟩
theorem nb_pos (split : Bool) : 1 ≤ nb split := by cases split <;> decide
theorem nb_le (split : Bool) : nb split ≤ 3 := by cases split <;> decide
theorem place_lt {t loc n : Nat} {split : Bool} (ht : t < n) (hl : loc ≤ 2) : place t loc split < n * nb split := by
  cases split <;> simp [place, nb] <;> omega
/-- The place of a location in its thread's buffers. -/
theorem place_eq (t loc : Nat) (split : Bool) (hl : loc ≤ 2) : ∃ i, i < nb split ∧ place t loc split = t * nb split + i := by
  cases split
  · exact ⟨0, by decide, by simp [place, nb]⟩
  · exact ⟨loc, by simp [nb]; omega, by simp [place, nb]⟩

structure Good4 (p : Prg) (split : Bool) (s : St) : Prop extends Good p s where
  bufl : s.buf.length = p.length * nb split
  ent : ∀ (b : Nat) r, s.buf[b]? = some r → ∀ e ∈ r, (0 ≤ e.1 ∧ e.1 ≤ 2) ∧ (0 ≤ e.2 ∧ e.2 ≤ 3)
  cnt : ∀ t i, t < p.length → i < nb split → ((row4 s (t * nb split + i)).length : Int) ≤ s.pc.getD t 0
theorem Good4.rlen {p : Prg} {split : Bool} {s : St} (h : Good4 p split s) (hv : Shape p) {b : Nat} {r : List (Int × Int)} (hr : s.buf[b]? = some r) : r.length ≤ 7 := by
  have hb := (List.getElem?_eq_some_iff.1 hr).1
  rw [h.bufl] at hb
  have hnp := nb_pos split
  have ht : b / nb split < p.length := (Nat.div_lt_iff_lt_mul (by omega)).2 hb
  have hi : b % nb split < nb split := Nat.mod_lt _ (by omega)
  have hc := h.cnt _ _ ht hi
  have e : b / nb split * nb split + b % nb split = b := by rw [Nat.mul_comm]; exact Nat.div_add_mod b (nb split)
  rw [e] at hc
  have er : row4 s b = r := by unfold row4; rw [List.getD_eq_getElem?_getD, hr]; rfl
  rw [er] at hc
  obtain ⟨k, hk, hkl⟩ := h.pcb _ _ (List.getElem?_eq_getElem ht)
  have h7 := hv.row _ _ (List.getElem?_eq_getElem ht)
  rw [List.getD_eq_getElem?_getD, hk] at hc
  simp at hc
  omega
theorem Good4.blen {p : Prg} {split : Bool} {s : St} (h : Good4 p split s) (hv : Shape p) : s.buf.length ≤ 9 := by
  rw [h.bufl]
  have h1 := hv.len
  have h2 := nb_le split
  have : p.length * nb split ≤ 3 * 3 := Nat.mul_le_mul h1 h2
  omega
theorem good_start4 (p : Prg) (split : Bool) : Good4 p split (start4 p split) := by
  refine ⟨good_start p _, by simp [start4, start3], fun b r hr e he => ?_, fun t i ht hi => ?_⟩
  · have := (List.mem_replicate.1 (List.mem_of_getElem? hr)).2
    subst this
    cases he
  · have e1 : row4 (start4 p split) (t * nb split + i) = [] := by
      unfold row4 start4 start3
      rw [List.getD_eq_getElem?_getD]
      dsimp only
      rw [List.getElem?_replicate]
      split <;> rfl
    rw [e1]
    simp only [start4, start3, List.getD_eq_getElem?_getD, List.getElem?_replicate]
    split <;> simp
theorem row4_set {s : St} {b c : Nat} {r : List (Int × Int)} {pc regs mem : List Int} (hb : b < s.buf.length) : row4 ⟨pc, regs, mem, s.buf.set b r⟩ c = if b = c then r else row4 s c := by
  unfold row4
  simp only [List.getD_eq_getElem?_getD, List.getElem?_set]
  split
  · rename_i e
    subst e
    first | rfl | (rw [if_pos hb]; rfl)
  · rfl
theorem row4_of {s : St} {b : Nat} {r : List (Int × Int)} (h : s.buf[b]? = some r) : row4 s b = r := by
  unfold row4
  rw [List.getD_eq_getElem?_getD, h]
  rfl
theorem row4_get {s : St} {b : Nat} (h : b < s.buf.length) : s.buf[b]? = some (row4 s b) := by
  rw [List.getElem?_eq_getElem h]
  unfold row4
  rw [List.getD_eq_getElem?_getD, List.getElem?_eq_getElem h]
  rfl
theorem inBuf_mem {r : List (Int × Int)} {loc v : Int} (h : inBuf r loc = some v) : ∃ e ∈ r, e.1 = loc ∧ e.2 = v := by
  unfold inBuf at h
  obtain ⟨e, he, hv⟩ := Option.map_eq_some_iff.1 h
  exact ⟨e, List.mem_reverse.1 (List.mem_of_find?_eq_some he), by simpa using List.find?_some he, hv⟩
theorem Good4.seen {p : Prg} {split : Bool} {s : St} (h : Good4 p split s) (t loc : Nat) : 0 ≤ seen4 s t loc split ∧ seen4 s t loc split ≤ 3 := by
  unfold seen4
  cases hb : inBuf (row4 s (place t loc split)) loc with
  | none => exact h.memv _
  | some v =>
    obtain ⟨e, he, _, rfl⟩ := inBuf_mem hb
    have hlt : place t loc split < s.buf.length := by
      by_cases hlt : place t loc split < s.buf.length
      · exact hlt
      · exfalso
        have : row4 s (place t loc split) = [] := by
          unfold row4
          rw [List.getD_eq_getElem?_getD, List.getElem?_eq_none (by omega)]
          rfl
        rw [this] at he
        cases he
    exact (h.ent _ _ (row4_get hlt) e he).2
theorem ent_set {bf : List (List (Int × Int))} {b : Nat} {r : List (Int × Int)} (h : ∀ (c : Nat) q, bf[c]? = some q → ∀ e ∈ q, (0 ≤ e.1 ∧ e.1 ≤ 2) ∧ (0 ≤ e.2 ∧ e.2 ≤ 3)) (hr : ∀ e ∈ r, (0 ≤ e.1 ∧ e.1 ≤ 2) ∧ (0 ≤ e.2 ∧ e.2 ≤ 3)) :
    ∀ (c : Nat) q, (bf.set b r)[c]? = some q → ∀ e ∈ q, (0 ≤ e.1 ∧ e.1 ≤ 2) ∧ (0 ≤ e.2 ∧ e.2 ≤ 3) := by
  intro c q hq
  rcases List.mem_or_eq_of_mem_set (List.mem_of_getElem? hq) with hm | rfl
  · obtain ⟨i, hi, rfl⟩ := List.mem_iff_getElem.1 hm
    exact h i _ (List.getElem?_eq_getElem hi)
  · exact hr
theorem pcD_set {xs : List Int} {t c : Nat} {v : Int} (ht : t < xs.length) : (xs.set t v).getD c 0 = if t = c then v else xs.getD c 0 := by
  simp only [List.getD_eq_getElem?_getD, List.getElem?_set]
  split
  · rename_i e
    subst e
    first | rfl | (rw [if_pos ht]; rfl)
  · rfl
theorem Good4.do4 {p : Prg} {split : Bool} {s : St} (h : Good4 p split s) (hv : Shape p) {m : Nat} (hm : m < p.length + s.buf.length) (hc : can4 p s split m = true) : Good4 p split (do4 p s split m) := by
  unfold can4 at hc
  unfold Proofs.Ythlmfjoiicnomaa.do4
  by_cases hlt : m < p.length
  · rw [if_pos hlt] at hc ⊢
    unfold ready4 at hc
    simp only [Bool.and_eq_true] at hc
    have hgo := hc.1
    obtain ⟨xs, k, x, hp, hk, hx, hiv, hn, _⟩ := h.next hv hgo
    have hpl : m < s.pc.length := by rw [h.pcl]; exact hlt
    split
    · exact ⟨h.toGood.do3 hv hgo, h.bufl, h.ent, fun t i ht hi => by
        have := h.cnt t i ht hi
        show ((row4 s (t * nb split + i)).length : Int) ≤ (s.pc.set m (s.pc.getD m 0 + 1)).getD t 0
        rw [pcD_set hpl]
        split
        · rename_i e; subst e; omega
        · exact this⟩
    · split
      · refine ⟨⟨by simpa using h.pcl, by simpa using h.regl, h.meml, pcb_step h.toGood hp hk hx, set_bd h.regb (h.seen _ _), h.memb⟩, h.bufl, h.ent, fun t i ht hi => ?_⟩
        have := h.cnt t i ht hi
        show ((row4 s (t * nb split + i)).length : Int) ≤ (s.pc.set m (s.pc.getD m 0 + 1)).getD t 0
        rw [pcD_set hpl]
        split
        · rename_i e; subst e; omega
        · exact this
      · obtain ⟨l, hl, hl2⟩ := valid_loc hiv
        rw [hn, hl, Int.toNat_natCast]
        have hpb : place m l split < s.buf.length := by rw [h.bufl]; exact place_lt hlt hl2
        have hw := h.wv (t := m) hiv
        refine ⟨⟨by simpa using h.pcl, h.regl, h.meml, pcb_step h.toGood hp hk hx, h.regb, h.memb⟩, by simpa using h.bufl, ent_set h.ent (fun e he => ?_), fun t i ht hi => ?_⟩
        · rcases List.mem_append.1 he with he | he
          · exact h.ent _ _ (row4_get hpb) e he
          · simp at he
            subst he
            exact ⟨by simp only; omega, hw⟩
        · show ((row4 ⟨_, _, _, s.buf.set (place m l split) _⟩ (t * nb split + i)).length : Int) ≤ (s.pc.set m (s.pc.getD m 0 + 1)).getD t 0
          rw [row4_set hpb, pcD_set hpl]
          have hold := h.cnt t i ht hi
          obtain ⟨j, hj, he⟩ := place_eq m l split hl2
          by_cases e1 : place m l split = t * nb split + i
          · have hmt : m = t := by
              rw [he] at e1
              have h1 : (m * nb split + j) / nb split = m := by rw [Nat.mul_comm, Nat.mul_add_div (by omega), Nat.div_eq_of_lt hj]; rfl
              have h2 : (t * nb split + i) / nb split = t := by rw [Nat.mul_comm, Nat.mul_add_div (by omega), Nat.div_eq_of_lt hi]; rfl
              rw [e1, h2] at h1
              exact h1.symm
            rw [if_pos e1, if_pos hmt, e1]
            rw [List.length_append]
            subst hmt
            rw [List.length_singleton, Int.natCast_add]
            omega
          · rw [if_neg e1]
            split
            · rename_i e; subst e; omega
            · exact hold
  · rw [if_neg hlt] at hc ⊢
    have hb : m - p.length < s.buf.length := by omega
    unfold flush4
    have hhead : ∀ e ∈ row4 s (m - p.length), (0 ≤ e.1 ∧ e.1 ≤ 2) ∧ (0 ≤ e.2 ∧ e.2 ≤ 3) := h.ent _ _ (row4_get hb)
    cases hr : row4 s (m - p.length) with
    | nil => rw [hr] at hc; simp at hc
    | cons e r =>
      rw [hr] at hhead
      refine ⟨⟨h.pcl, h.regl, by simpa using h.meml, h.pcb, h.regb, set_bd h.memb (hhead e List.mem_cons_self).2⟩, by simpa using h.bufl, ent_set h.ent (fun e' he' => hhead e' (List.mem_cons_of_mem _ he')), fun t i ht hi => ?_⟩
      show ((row4 ⟨_, _, _, s.buf.set (m - p.length) _⟩ (t * nb split + i)).length : Int) ≤ s.pc.getD t 0
      rw [row4_set hb]
      have hold := h.cnt t i ht hi
      split
      · rename_i e1
        rw [← e1, hr] at hold
        simp at hold ⊢
        omega
      · exact hold
def mRun (p : Prg) (split : Bool) (ms : List Int) : Option St := Proofs.Ythlmfjoiicnomaa.follow (fun s => moves4 p s split) (fun s m => do4 p s split m.toNat) (start4 p split) ms
def runMov (p : Prg) (split : Bool) (ms : List Int) : List Int × Bool := if progValid p then runRes (done4 p) out3 (mRun p split ms) else ([], false)
def movAft (p : Prg) (split : Bool) (ms : List Int) : List Int := if progValid p then (match mRun p split ms with | some s => moves4 p s split | none => []) else []
theorem good4_step {p : Prg} {split : Bool} (hv : Shape p) (s : St) (m : Int) (h : Good4 p split s) (hm : m ∈ moves4 p s split) : Good4 p split (do4 p s split m.toNat) := by
  obtain ⟨k, rfl, h1, h2⟩ := (mem_moves4 m).1 hm
  exact h.do4 hv (by simpa using h1) (by simpa using h2)
theorem follow_inv {σ : Type} {mv : σ → List Int} {st : σ → Int → σ} {I : σ → Prop} (hst : ∀ s m, I s → m ∈ mv s → I (st s m)) : ∀ (ms : List Int) (s s' : σ), I s → Proofs.Ythlmfjoiicnomaa.follow mv st s ms = some s' → I s'
  | [], s, s', h, e => by simp [Proofs.Ythlmfjoiicnomaa.follow] at e; rw [← e]; exact h
  | m :: ms, s, s', h, e => by
    simp only [Proofs.Ythlmfjoiicnomaa.follow] at e
    split at e
    · exact follow_inv hst ms _ _ (hst s m h (by assumption)) e
    · cases e
theorem mRun_good {p : Prg} {split : Bool} {ms : List Int} {s : St} (hv : Shape p) (h : mRun p split ms = some s) : Good4 p split s := follow_inv (good4_step hv) _ _ _ (good_start4 p split) h
theorem moves4_len {p : Prg} {split : Bool} {s : St} (h : Good4 p split s) (hv : Shape p) : (moves4 p s split).length ≤ 12 := by
  unfold moves4
  rw [List.length_map]
  have h1 := List.length_filter_le (can4 p s split) (List.range (p.length + s.buf.length))
  have h2 := h.blen hv
  have h3 := hv.len
  simp at h1
  omega
theorem runMov_len (p : Prg) (split : Bool) (ms : List Int) : (runMov p split ms).1.length ≤ 1048576 := by
  unfold runMov
  split
  · rename_i hv
    have hsh := (valid_of hv).toShape
    unfold runRes
    split
    · rename_i s hs
      split
      · have := out3_len (mRun_good hsh hs).toGood hsh
        dsimp only
        omega
      · simp
    · simp
  · simp
theorem movAft_len (p : Prg) (split : Bool) (ms : List Int) : (movAft p split ms).length ≤ 1048576 := by
  unfold movAft
  split
  · rename_i hv
    have hsh := (valid_of hv).toShape
    split
    · rename_i s hs
      have := moves4_len (mRun_good hsh hs) hsh
      omega
    · simp
  · simp
end Go.Proofs.Ythlmfjoiicnomaa
namespace Go.Proofs.Ythlmfjoiicnomaa
open Go.RowKit
set_option linter.unusedVariables false
set_option linter.unusedSimpArgs false

theorem range_sum_one {f g : Nat → Nat} {t d : Nat} (h : ∀ i, i ≠ t → g i = f i) (hd : f t = g t + d) : ∀ n, t < n → ((List.range n).map f).sum = ((List.range n).map g).sum + d
  | 0, ht => absurd ht (Nat.not_lt_zero _)
  | n + 1, ht => by
    rw [List.range_succ, List.map_append, List.map_append, List.sum_append, List.sum_append]
    simp only [List.map_cons, List.map_nil, List.sum_cons, List.sum_nil, Nat.add_zero]
    by_cases e : t = n
    · subst e
      have : ((List.range t).map f) = (List.range t).map g := List.map_congr_left fun i hi => (h i (by have := List.mem_range.1 hi; omega)).symm
      rw [this]
      omega
    · have := range_sum_one h hd n (by omega)
      rw [this, h n (fun e' => e e'.symm)]
      omega
theorem range_sum_eq {f g : Nat → Nat} (n : Nat) (h : ∀ i, i < n → g i = f i) : ((List.range n).map f).sum = ((List.range n).map g).sum := by
  rw [List.map_congr_left fun i hi => (h i (List.mem_range.1 hi)).symm]
theorem lens_set : ∀ {bf : List (List (Int × Int))} {b : Nat} {r : List (Int × Int)} (r' : List (Int × Int)), bf[b]? = some r → ((bf.set b r').map List.length).sum + r.length = (bf.map List.length).sum + r'.length
  | x :: bf, 0, r, r', h => by simp at h; subst h; simp; omega
  | x :: bf, b + 1, r, r', h => by
    simp at h
    have := lens_set r' h
    simp only [List.set_cons_succ, List.map_cons, List.sum_cons]
    omega
def cost4 (x : Ins) : Nat := if x.op = 2 ∨ x.op = 3 then 2 else 1
def leftT (p : Prg) (pc : List Int) (t : Nat) : Nat := (((p.getD t []).drop (pc.getD t 0).toNat).map cost4).sum
def left4 (p : Prg) (s : St) : Nat := ((List.range p.length).map (leftT p s.pc)).sum + (s.buf.map List.length).sum
theorem left_pc {p : Prg} {s : St} (h : Good p s) {t k : Nat} {xs : List Ins} {x : Ins} (hp : p[t]? = some xs) (hk : s.pc[t]? = some (k : Int)) (hx : xs[k]? = some x) :
    ((List.range p.length).map (leftT p s.pc)).sum = ((List.range p.length).map (leftT p (s.pc.set t (s.pc.getD t 0 + 1)))).sum + cost4 x := by
  have ht : t < p.length := (List.getElem?_eq_some_iff.1 hp).1
  have hts : t < s.pc.length := by rw [h.pcl]; exact ht
  have e0 : s.pc.getD t 0 = (k : Int) := by rw [List.getD_eq_getElem?_getD, hk]; rfl
  refine range_sum_one (fun i hi => ?_) ?_ _ ht
  · unfold leftT
    rw [pcD_set hts, if_neg (fun e => hi e.symm)]
  · unfold leftT
    rw [pcD_set hts, if_pos rfl, e0, List.getD_eq_getElem?_getD, hp]
    obtain ⟨hk', rfl⟩ := List.getElem?_eq_some_iff.1 hx
    have e1 : ((k : Int) + 1).toNat = k + 1 := by omega
    rw [e1, Int.toNat_natCast]
    show (List.map cost4 (List.drop k xs)).sum = (List.map cost4 (List.drop (k + 1) xs)).sum + cost4 xs[k]
    rw [List.drop_eq_getElem_cons hk', List.map_cons, List.sum_cons]
    omega
/-- One move: one thing less is left. -/
theorem left_step {p : Prg} {split : Bool} {s : St} (h : Good4 p split s) (hv : Shape p) {m : Nat} (hm : m < p.length + s.buf.length) (hc : can4 p s split m = true) : left4 p s = left4 p (do4 p s split m) + 1 := by
  unfold can4 at hc
  unfold do4 left4
  by_cases hlt : m < p.length
  · rw [if_pos hlt] at hc ⊢
    unfold ready4 at hc
    simp only [Bool.and_eq_true] at hc
    obtain ⟨xs, k, x, hp, hk, hx, hiv, hn, _⟩ := h.next hv hc.1
    rw [left_pc h.toGood hp hk hx, hn]
    have hop := valid_op hiv
    split
    · rename_i hw
      have hc1 : cost4 x = 1 := by
        unfold cost4
        unfold waits4 at hw
        simp only [Bool.or_eq_true, beq_iff_eq] at hw
        rw [if_neg (by omega)]
      rw [hc1]
      show _ = _ + (s.buf.map List.length).sum + 1
      simp only [do3]
      omega
    · rename_i hw
      split
      · rename_i h1
        have hc1 : cost4 x = 1 := by
          unfold cost4
          rw [if_neg (by omega)]
        rw [hc1]
        show _ + 1 + _ = ((List.range p.length).map (leftT p (s.pc.set m (s.pc.getD m 0 + 1)))).sum + (s.buf.map List.length).sum + 1
        omega
      · rename_i h1
        unfold waits4 at hw
        simp only [Bool.or_eq_true, beq_iff_eq] at hw
        have hc2 : cost4 x = 2 := by
          unfold cost4
          rw [if_pos (by omega)]
        obtain ⟨l, hl, hl2⟩ := valid_loc hiv
        rw [hc2, hl, Int.toNat_natCast]
        have hpb : place m l split < s.buf.length := by rw [h.bufl]; exact place_lt hlt hl2
        have := lens_set (row4 s (place m l split) ++ [((l : Int), wval s m x)]) (row4_get hpb)
        rw [List.length_append, List.length_singleton] at this
        show _ + 2 + _ = ((List.range p.length).map (leftT p (s.pc.set m (s.pc.getD m 0 + 1)))).sum + ((s.buf.set (place m l split) (row4 s (place m l split) ++ [((l : Int), wval s m x)])).map List.length).sum + 1
        omega
  · rw [if_neg hlt] at hc ⊢
    have hb : m - p.length < s.buf.length := by omega
    unfold flush4
    cases hr : row4 s (m - p.length) with
    | nil => rw [hr] at hc; simp at hc
    | cons e r =>
      have := lens_set r (row4_get hb)
      rw [hr, List.length_cons] at this
      show _ + _ = ((List.range p.length).map (leftT p s.pc)).sum + ((s.buf.set (m - p.length) r).map List.length).sum + 1
      omega
theorem left_follow {p : Prg} {split : Bool} (hv : Shape p) : ∀ (ms : List Int) (s s' : St), Good4 p split s → Proofs.Ythlmfjoiicnomaa.follow (fun s => moves4 p s split) (fun s m => do4 p s split m.toNat) s ms = some s' → left4 p s = left4 p s' + ms.length
  | [], s, s', h, e => by simp [Proofs.Ythlmfjoiicnomaa.follow] at e; rw [e]; rfl
  | m :: ms, s, s', h, e => by
    simp only [Proofs.Ythlmfjoiicnomaa.follow] at e
    split at e
    · rename_i hm
      have := left_follow hv ms _ _ (good4_step hv s m h hm) e
      obtain ⟨k, rfl, h1, h2⟩ := (mem_moves4 m).1 hm
      rw [left_step h hv h1 h2, List.length_cons]
      rw [Int.toNat_natCast] at this
      omega
    · cases e
theorem cost_sum (xs : List Ins) : (xs.map cost4).sum = xs.length + xs.countP (fun x => x.op == 2) + xs.countP (fun x => x.op == 3) := by
  induction xs with
  | nil => rfl
  | cons x xs ih =>
    simp only [List.map_cons, List.sum_cons, List.length_cons, List.countP_cons, ih]
    unfold cost4
    by_cases h2 : x.op = 2
    · simp [h2]; omega
    · by_cases h3 : x.op = 3
      · simp [h3]; omega
      · simp [h2, h3]; omega
theorem range_map_getD : ∀ (p : Prg) (f : List Ins → Nat), ((List.range p.length).map fun t => f (p.getD t [])).sum = (p.map f).sum := by
  intro p f
  congr 1
  apply List.ext_getElem
  · simp
  · intro i h1 h2
    simp at h1 h2
    simp [h1]
theorem left_start (p : Prg) (split : Bool) : left4 p (start4 p split) = (p.map List.length).sum + tot (fun x => x.op == 2) p + tot (fun x => x.op == 3) p := by
  unfold left4
  have e1 : ((List.range p.length).map (leftT p (start4 p split).pc)).sum = (p.map fun xs => (xs.map cost4).sum).sum := by
    rw [← range_map_getD]
    refine range_sum_eq _ fun t ht => ?_
    unfold leftT start4 start3
    have : (List.replicate p.length (0 : Int)).getD t 0 = 0 := by
      rw [List.getD_eq_getElem?_getD, List.getElem?_replicate]
      split <;> rfl
    rw [this]
    rfl
  have e2 : ((start4 p split).buf.map List.length).sum = 0 := by
    unfold start4 start3
    simp
  rw [e1, e2]
  unfold tot
  induction p with
  | nil => rfl
  | cons xs p ih =>
    simp only [List.map_cons, List.sum_cons, cost_sum] at ih ⊢
    have := ih (by rw [← range_map_getD]; refine range_sum_eq _ fun t ht => ?_; unfold leftT start4 start3; have : (List.replicate p.length (0 : Int)).getD t 0 = 0 := (by rw [List.getD_eq_getElem?_getD, List.getElem?_replicate]; split <;> rfl); rw [this]; simp [cost_sum]) (by unfold start4 start3; simp)
    omega
theorem left_done {p : Prg} {split : Bool} {s : St} (h : Good4 p split s) (hd : done4 p s = true) : left4 p s = 0 := by
  unfold done4 at hd
  rw [Bool.and_eq_true] at hd
  obtain ⟨hb, hd⟩ := hd
  unfold left4
  have e2 : (s.buf.map List.length).sum = 0 := by
    rw [List.all_eq_true] at hb
    have : ∀ l : List (List (Int × Int)), (∀ r ∈ l, r.isEmpty = true) → (l.map List.length).sum = 0 := by
      intro l
      induction l with
      | nil => intro _; rfl
      | cons r l ih =>
        intro hl
        have h1 := ih fun r hr => hl r (List.mem_cons_of_mem _ hr)
        have h2 := hl r List.mem_cons_self
        rw [List.isEmpty_iff] at h2
        subst h2
        simpa using h1
    exact this _ hb
  have e1 : ((List.range p.length).map (leftT p s.pc)).sum = ((List.range p.length).map fun _ => 0).sum := by
    refine range_sum_eq _ fun t ht => ?_
    unfold done3 at hd
    rw [List.all_eq_true] at hd
    have hdt := hd t (List.mem_range.2 ht)
    obtain ⟨xs, hx⟩ : ∃ xs, p[t]? = some xs := ⟨_, List.getElem?_eq_getElem ht⟩
    obtain ⟨k, hk, hkl⟩ := h.pcb t xs hx
    rw [goes_of hx hk] at hdt
    simp at hdt
    have h1 : s.pc.getD t 0 = (k : Int) := by rw [List.getD_eq_getElem?_getD, hk]; rfl
    have h2 : p.getD t [] = xs := by rw [List.getD_eq_getElem?_getD, hx]; rfl
    unfold leftT
    rw [h1, h2, Int.toNat_natCast, List.drop_eq_nil_of_le hdt]
    rfl
  have e3 : ∀ n : Nat, ((List.range n).map fun _ => 0).sum = 0 := fun n => by
    induction n with
    | zero => rfl
    | succ n ih => rw [List.range_succ, List.map_append, List.sum_append, ih]; rfl
  rw [e1, e2, e3]
/-- Moves that lead to an outcome are as many as instructions and writes that are not swaps. -/
theorem mov_count {p : Prg} {split : Bool} {ms : List Int} (h : (runMov p split ms).2 = true) : ms.length = (p.map List.length).sum + tot (fun x => x.op == 2) p + tot (fun x => x.op == 3) p := by
  unfold runMov at h
  split at h
  · rename_i hv
    have hsh := (valid_of hv).toShape
    unfold runRes at h
    split at h
    · rename_i s hs
      split at h
      · rename_i hd
        have hg := mRun_good hsh hs
        have h1 := left_follow hsh _ _ _ (good_start4 p split) hs
        rw [left_start, left_done hg hd] at h1
        omega
      · cases h
    · cases h
  · cases h
/-- A program does not get stuck: what is not done has a move. -/
theorem move4_some {p : Prg} {split : Bool} {s : St} (h : Good4 p split s) (hd : done4 p s = false) : ∃ j : Nat, j < p.length + s.buf.length ∧ can4 p s split j = true := by
  by_cases hb : (s.buf.all fun x => x.isEmpty) = true
  · have hd3 : done3 p s = false := by
      unfold done4 at hd
      rw [hb, Bool.true_and] at hd
      exact hd
    unfold done3 at hd3
    rw [List.all_eq_false] at hd3
    obtain ⟨t, ht, hg⟩ := hd3
    have ht := List.mem_range.1 ht
    have hg : goes p s t = true := by simpa using hg
    refine ⟨t, by omega, ?_⟩
    unfold can4 ready4
    rw [if_pos ht, hg, Bool.true_and]
    have : empty4 s t split = true := by
      unfold empty4
      rw [List.all_eq_true]
      intro i hi
      unfold row4
      rw [List.getD_eq_getElem?_getD]
      cases hx : s.buf[t * nb split + i]? with
      | none => rfl
      | some r => exact List.all_eq_true.1 hb r (List.mem_of_getElem? hx)
    rw [this, Bool.or_true]
  · have hb : (s.buf.all fun x => x.isEmpty) = false := by simpa using hb
    rw [List.all_eq_false] at hb
    obtain ⟨r, hr, hne⟩ := hb
    obtain ⟨b, hb, rfl⟩ := List.mem_iff_getElem.1 hr
    refine ⟨p.length + b, by omega, ?_⟩
    unfold can4
    rw [if_neg (by omega), Nat.add_sub_cancel_left]
    unfold row4
    rw [List.getD_eq_getElem?_getD, List.getElem?_eq_getElem hb]
    simpa using hne
theorem moves4_ne {p : Prg} {split : Bool} {s : St} (h : Good4 p split s) (hd : done4 p s = false) : moves4 p s split ≠ [] := by
  obtain ⟨j, h1, h2⟩ := move4_some h hd
  intro e
  have := (mem_moves4 (split := split) (j : Int)).2 ⟨j, rfl, h1, h2⟩
  rw [e] at this
  cases this
theorem moves4_done {p : Prg} {split : Bool} {s : St} (h : Good4 p split s) (hv : Shape p) (hd : done4 p s = true) : moves4 p s split = [] := by
  cases hm : moves4 p s split with
  | nil => rfl
  | cons m ms =>
    obtain ⟨k, rfl, h1, h2⟩ := (mem_moves4 m).1 (show m ∈ moves4 p s split by rw [hm]; exact List.mem_cons_self)
    have := left_step h hv h1 h2
    rw [left_done h hd] at this
    omega
theorem moves4_sorted (p : Prg) (s : St) (split : Bool) : (moves4 p s split).Pairwise (· < ·) := by
  unfold moves4
  rw [List.pairwise_map]
  refine ((List.pairwise_lt_range).filter _).imp fun h => ?_
  exact Int.ofNat_lt.2 h
/-- The list of possible moves: it ascends; each can be made, and behind it the program is done or has a move; and where the program is done, it is empty. -/
theorem movAft_lt {p : Prg} {split : Bool} {ms : List Int} {i : Nat} {x y : Int} (h1 : (movAft p split ms)[i]? = some x) (h2 : (movAft p split ms)[i + 1]? = some y) : x < y := by
  have key : ∀ l : List Int, l.Pairwise (· < ·) → l[i]? = some x → l[i + 1]? = some y → x < y := fun l hl a b => by
    obtain ⟨ha, rfl⟩ := List.getElem?_eq_some_iff.1 a
    obtain ⟨hb, rfl⟩ := List.getElem?_eq_some_iff.1 b
    exact List.pairwise_iff_getElem.1 hl _ _ ha hb (by omega)
  refine key _ ?_ h1 h2
  unfold movAft
  split
  · split
    · exact moves4_sorted _ _ _
    · exact .nil
  · exact .nil
theorem movAft_next {p : Prg} {split : Bool} {ms : List Int} {m : Int} (h : m ∈ movAft p split ms) (hr : (runMov p split (ms ++ [m])).2 = false) : movAft p split (ms ++ [m]) ≠ [] := by
  unfold movAft at h ⊢
  unfold runMov at hr
  by_cases hv : progValid p = true
  · have hsh := (valid_of hv).toShape
    rw [if_pos hv] at h hr ⊢
    cases hm : mRun p split ms with
    | none => rw [hm] at h; cases h
    | some s =>
      rw [hm] at h
      dsimp only at h
      have hg := mRun_good hsh hm
      have e : mRun p split (ms ++ [m]) = some (do4 p s split m.toNat) := by
        unfold mRun at hm ⊢
        rw [follow_append, hm]
        simp only [Option.bind_some]
        rw [follow_one, if_pos h]
      rw [e] at hr ⊢
      have hg2 := good4_step hsh s m hg h
      dsimp only
      refine moves4_ne hg2 ?_
      unfold runRes at hr
      dsimp only at hr
      split at hr
      · cases hr
      · rename_i hd; simpa using hd
  · rw [if_neg hv] at h
    cases h
theorem movAft_done {p : Prg} {split : Bool} {ms : List Int} (h : (runMov p split ms).2 = true) : movAft p split ms = [] := by
  unfold runMov at h
  unfold movAft
  split at h
  · rename_i hv
    have hsh := (valid_of hv).toShape
    rw [if_pos hv]
    unfold runRes at h
    split at h
    · rename_i s hs
      split at h
      · rename_i hd
        rw [hs]
        exact moves4_done (mRun_good hsh hs) hsh hd
      · cases h
    · cases h
  · cases h
/-- The first ones of possible moves are possible, and leave the next one possible. -/
theorem movAft_take {p : Prg} {split : Bool} {ms : List Int} {k : Nat} {x : Int} (h : (runMov p split ms).2 = true ∨ movAft p split ms ≠ []) (hx : ms[k]? = some x) : x ∈ movAft p split (ms.take k) := by
  have hv : progValid p = true ∧ ∃ s, mRun p split ms = some s := by
    unfold runMov movAft at h
    by_cases hv : progValid p = true
    · rw [if_pos hv, if_pos hv] at h
      refine ⟨hv, ?_⟩
      cases hm : mRun p split ms with
      | none => rw [hm] at h; rcases h with h | h
                · cases h
                · exact absurd rfl h
      | some s => exact ⟨s, rfl⟩
    · rw [if_neg hv, if_neg hv] at h
      rcases h with h | h
      · cases h
      · exact absurd rfl h
  obtain ⟨hv, s, hs⟩ := hv
  unfold movAft
  rw [if_pos hv]
  have hk : k < ms.length := (List.getElem?_eq_some_iff.1 hx).1
  have e : ms = ms.take k ++ (x :: ms.drop (k + 1)) := by
    obtain ⟨_, rfl⟩ := List.getElem?_eq_some_iff.1 hx
    rw [← List.drop_eq_getElem_cons hk, List.take_append_drop]
  unfold mRun at hs ⊢
  rw [e, follow_append] at hs
  cases hm : Proofs.Ythlmfjoiicnomaa.follow (fun s => moves4 p s split) (fun s m => do4 p s split m.toNat) (start4 p split) (ms.take k) with
  | none => rw [hm] at hs; cases hs
  | some s' =>
    rw [hm] at hs
    simp only [Option.bind_some, Proofs.Ythlmfjoiicnomaa.follow] at hs
    dsimp only
    split at hs
    · assumption
    · cases hs
end Go.Proofs.Ythlmfjoiicnomaa
