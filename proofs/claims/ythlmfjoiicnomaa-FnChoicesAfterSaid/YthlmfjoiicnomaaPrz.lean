/-
  PROVED HERE: plain lemmas on lists, worlds and owned rows, for the other texts of this claim. a region that draws its order runs as its operations in the order of the text do, if any two of them that no edge orders are apart and are a copy of a slot and anything, or two that only read. a region that draws its order runs as its operations in the order of the text do, if any two of them that no edge orders are apart and are a copy of a slot and anything, or two that only read; a call of a function that is on the list q, in whose contract the world stays as it was, reads. nothing; the words for an instruction. CONDITIONS: as each theorem states.
-/
import Derived.Test.YthlmfjoiicnomaaRows
import Derived.WalkKit
import Derived.ProofKit
import Derived.OpenShut
import Derived.BigQuiet
import Derived.Deep.QuietTactic
import Derived.Deep.LoopGhost
import Derived.Deep.RegionWith
import Derived.Deep.RegionHeld3
import Derived.Deep.DeepMust
import Derived.StillTailTactics
namespace Go.Proofs.Ythlmfjoiicnomaa
open Go.RowKit
set_option linter.unusedVariables false
set_option linter.unusedSimpArgs false

/-- The cells cs stand from the address a on. -/
def Rd (w : World) (a : Option Addr) (cs : List Value) : Prop :=
  cs = [] ∨ ∃ b off, a = some ⟨b, off, none⟩ ∧ b < w.heap.size ∧ ∀ j u, cs[j]? = some u → w.cell? ⟨b, off + j, none⟩ = some u

theorem Rd.below {w w' : World} {a : Option Addr} {cs : List Value} (h : Rd w a cs) (hb : Below w.heap.size w w') : Rd w' a cs := by
  refine h.imp id ?_
  rintro ⟨b, off, rfl, hlt, hc⟩
  exact ⟨b, off, rfl, Nat.lt_of_lt_of_le hlt hb.size, fun j u hj => (hb.cell hlt).trans (hc j u hj)⟩

/-- The block of a slice's address. -/
def blk : Option Addr → Option Nat | some a => some a.block | none => none

theorem Rd.grown {w w' : World} {a : Option Addr} {cs : List Value} {row : Option Nat} (h : Rd w a cs) (hg : w.grownBy w' row) (hne : ∀ b, blk a = some b → some b ≠ row) : Rd w' a cs := by
  refine h.imp id ?_
  rintro ⟨b, off, rfl, hlt, hc⟩
  exact ⟨b, off, rfl, Nat.lt_of_lt_of_le hlt hg.size, fun j u hj => hg.cell (hc j u hj) (hne b rfl)⟩

theorem Rd.drew {w : World} {a : Option Addr} {cs : List Value} (h : Rd w a cs) : Rd w.drew a cs := h

theorem Rd.drewN {w : World} {a : Option Addr} {cs : List Value} (n : Nat) (h : Rd w a cs) : Rd (w.drewN n) a cs := h

theorem Rd.alloc {w : World} {a : Option Addr} {cs : List Value} (h : Rd w a cs) (o : Obj) : Rd (w.alloc o) a cs :=
  h.below ((Below.refl _ _).alloc (Nat.le_refl _) o)

theorem Rd.at {w : World} {a : Option Addr} {cs : List Value} (h : Rd w a cs) (k : Nat) (hk : k < cs.length) :
    ∃ b off, a = some ⟨b, off, none⟩ ∧ b < w.heap.size ∧ w.cell? ⟨b, off + k, none⟩ = some cs[k] := by
  rcases h with h | ⟨b, off, rfl, hlt, hc⟩
  · subst h; simp at hk
  · exact ⟨b, off, rfl, hlt, hc k _ (List.getElem?_eq_getElem hk)⟩

/-- What a call owns can be read. -/
theorem Rd.own {w : World} {base e size n : Nat} {a : Option Addr} {cap : Nat} {cs : List Value} (h : w.ownsRow base e size (.slice a n cap) n cs) : Rd w a cs := by
  rcases h.2 with ⟨hv, hn⟩ | ⟨g, cap', cur, hv, hb, hg, hnc, hcm, hcs, ht⟩
  · have := h.1; rw [hn] at this
    exact .inl (List.eq_nil_of_length_eq_zero (by simpa using this))
  · simp only [Value.slice.injEq, true_and] at hv
    obtain ⟨rfl, rfl⟩ := hv
    refine .inr ⟨g, 0, rfl, (Array.getElem?_eq_some_iff.1 hg).1, fun j u hj => ?_⟩
    have := h.cells (g := g) rfl j u hj
    simpa [Addr.add_lit] using this

abbrev ints (xs : List Int) : List Value := xs.map (Value.int .i64)

abbrev OwI (w : World) (base : Nat) (a : Option Addr) (cap : Nat) (xs : List Int) : Prop := w.ownsRow base 3 1 (.slice a xs.length cap) xs.length (ints xs)

theorem Rd.int {w : World} {a : Option Addr} {xs : List Int} (h : Rd w a (ints xs)) (k : Nat) (hk : k < xs.length) :
    ∃ b off, a = some ⟨b, off, none⟩ ∧ b < w.heap.size ∧ w.cell? ⟨b, off + k, none⟩ = some (.int .i64 xs[k]) := by
  obtain ⟨b, off, h1, h2, h3⟩ := h.at k (by simpa using hk)
  exact ⟨b, off, h1, h2, by simpa using h3⟩

theorem own_some {w : World} {base e size n : Nat} {a : Option Addr} {cap : Nat} {cs : List Value} (h : w.ownsRow base e size (.slice a n cap) n cs) (hn : 0 < n) :
    ∃ g, a = some ⟨g, 0, none⟩ ∧ base ≤ g ∧ g < w.heap.size := by
  rcases h.2 with ⟨hv, hn'⟩ | ⟨g, cap', cur, hv, hb, hg, _⟩
  · omega
  · simp only [Value.slice.injEq, true_and] at hv
    obtain ⟨rfl, rfl⟩ := hv
    exact ⟨g, rfl, hb, (Array.getElem?_eq_some_iff.1 hg).1⟩

theorem own_shape {w : World} {base e size n : Nat} {v : Value} {cs : List Value} (h : w.ownsRow base e size v n cs) :
    ∃ a cap, v = .slice a n cap ∧ ∀ b, blk a = some b → base ≤ b ∧ b < w.heap.size := by
  rcases h.2 with ⟨rfl, rfl⟩ | ⟨g, cap', cur, rfl, hb, hg, _⟩
  · exact ⟨none, 0, rfl, fun b hb => by simp [blk] at hb⟩
  · exact ⟨_, cap', rfl, fun b hb' => by simp [blk] at hb'; subst hb'; exact ⟨hb, (Array.getElem?_eq_some_iff.1 hg).1⟩⟩

theorem own_below {w w' : World} {base e size n : Nat} {v : Value} {cs : List Value} (h : w.ownsRow base e size v n cs) (hb : Below w.heap.size w w') : w'.ownsRow base e size v n cs := by
  refine ⟨h.1, h.2.imp id ?_⟩
  rintro ⟨g, cap, cur, hv, hg, hh, r⟩
  exact ⟨g, cap, cur, hv, hg, by rw [hb.block g (Array.getElem?_eq_some_iff.1 hh).1]; exact hh, r⟩

theorem own_kept {w w' : World} {base e size n : Nat} {a : Option Addr} {cap : Nat} {cs : List Value} {row : Option Nat} (h : w.ownsRow base e size (.slice a n cap) n cs) (hg : w.grownBy w' row) (hne : ∀ b, blk a = some b → some b ≠ row) : w'.ownsRow base e size (.slice a n cap) n cs := by
  refine h.kept hg ?_
  cases a with
  | none => exact .inl rfl
  | some x => exact .inr (by simpa [Value.ownBlock, blk] using hne x.block rfl)
theorem own_blk {w : World} {base e size n : Nat} {a : Option Addr} {cap : Nat} {cs : List Value} (h : w.ownsRow base e size (.slice a n cap) n cs) : ∀ b, blk a = some b → base ≤ b ∧ b < w.heap.size := by
  obtain ⟨a', cap', hv, hb⟩ := own_shape h
  simp only [Value.slice.injEq, true_and] at hv
  obtain ⟨rfl, rfl⟩ := hv
  exact hb

/-- What the walk is told of a slice of numbers that came in. -/
def IsRow (k : IntKind) (w : World) (a : Option Addr) (len cap : Nat) (zs : List Int) : Prop :=
  (a = none ∧ len = 0 ∧ cap = 0 ∧ zs = []) ∨
  ∃ x, a = some x ∧ len ≤ cap ∧ cap ≤ maxLen ∧ zs.length = cap ∧ (∀ i, i < zs.length → w.cell? (x.add i) = some (.int k (zs.getD i 0))) ∧ ∀ n ∈ zs, (Lit.int k n).wf = true
theorem IsRow.rd {k : IntKind} {w : World} {a : Option Addr} {len cap : Nat} {zs : List Int} (h : IsRow k w a len cap zs) : ∃ xs : List Int, xs.length = len ∧ Rd w a (xs.map (Value.int k)) ∧ ∀ n ∈ xs, (Lit.int k n).wf = true := by
  rcases h with ⟨rfl, rfl, rfl, rfl⟩ | ⟨x, rfl, h1, h2, h3, h4, h5⟩
  · exact ⟨[], rfl, .inl rfl, by simp⟩
  · refine ⟨zs.take len, by rw [List.length_take]; omega, ?_, fun n hn => h5 n (List.mem_of_mem_take hn)⟩
    by_cases h0 : len = 0
    · subst h0; exact .inl (by simp)
    · have hc := h4 0 (by omega)
      obtain ⟨b, off, spot⟩ := x
      have hspot : spot = none := by simpa [Addr.add] using World.cell?_spot hc
      subst hspot
      refine .inr ⟨b, off, rfl, World.block_lt_of_cell? w ⟨b, off, none⟩ (by simpa [Addr.add] using hc), fun j u hj => ?_⟩
      simp only [List.getElem?_map, Option.map_eq_some_iff] at hj
      obtain ⟨z, hz, rfl⟩ := hj
      obtain ⟨hjl, hz'⟩ := List.getElem?_eq_some_iff.1 hz
      have hjl' : j < len := by rw [List.length_take] at hjl; omega
      have := h4 j (by omega)
      rw [Addr.add_lit] at this
      rw [this]
      have e : zs.getD j 0 = z := by
        rw [List.getElem_take] at hz'
        simp [List.getD, List.getElem?_eq_getElem (show j < zs.length by omega), hz']
      rw [e]

theorem Try.info_int : (Try.prog.info? 3).map (fun i => (i.zero, i.size, i.bytes)) = some (some (.int .i64 0), 1, 8) := by kernel_rfl

theorem set_step (xs : List Int) (k n : Nat) (hn : xs.length = n) (hk : k < n) :
    ((ints (xs.take k ++ List.replicate (n - k) 0)).set k (.int .i64 xs[k])) = ints (xs.take (k+1) ++ List.replicate (n - (k+1)) 0) := by
  have e : List.replicate (n - k) (0 : Int) = 0 :: List.replicate (n - (k + 1)) 0 := by
    rw [show n - k = (n - (k + 1)) + 1 by omega]; rfl
  rw [e, List.take_succ_eq_append_getElem (by omega)]
  simp only [ints, List.map_append, List.map_cons, List.map_nil, List.append_assoc, List.cons_append, List.nil_append]
  rw [List.set_append_right _ _ (by simp; omega)]
  simp [show k - min k xs.length = 0 by omega]

theorem at_step (xs : List Int) (k n : Nat) (hn : xs.length = n) (hk : k < n) : (ints (xs.take k ++ List.replicate (n - k) 0))[k]? = some (.int .i64 0) := by
  rw [show n - k = (n - (k + 1)) + 1 by omega]
  simp [List.getElem?_append, hn, show ¬ k < min k n by omega, show k - min k n = 0 by omega]

theorem run_callFunc {f : FuncId} {fn : Func} (hf : Try.prog.funcs[f]? = some fn) (hname : (fn.name == "runtime.NumGoroutine") = false) (hb : fn.body.isNone = false) (args : Array Value) (w : World) :
    (callFunc f args).run Try.prog w = .ok (.enter f args) w := by
  have hp : (do let p ← program; pure p : Sem Program).run Try.prog w = .ok Try.prog w := rfl
  unfold callFunc
  simp only [Sem.run_bind]
  show (Result.ok Try.prog w).andThen _ = _
  rw [Result.andThen_ok, hf]
  simp only [hname, hb, Bool.false_eq_true, if_false]
  rfl
theorem hid {p : Prop} (h : p) : Hid p := h
theorem ret_int {k : IntKind} {a b : Int} (h : a = b) : Ending.returned (.int k a) = .returned (.int k b) := by rw [h]
theorem ret_slice {a : Option Addr} {n m cap : Nat} (h : n = m) : Ending.returned (.slice a n cap) = .returned (.slice a m cap) := by rw [h]
theorem ret_bool {a b : Bool} (h : a = b) : Ending.returned (.bool a) = .returned (.bool b) := by rw [h]
theorem ret_str {a b : ByteArray} (h : a = b) : Ending.returned (.string a) = .returned (.string b) := by rw [h]
theorem below_drewN {B : Nat} {a w : World} (n : Nat) (h : Below B a w) : Below B a (w.drewN n) := ⟨h.os, h.tape, h.output, h.size, h.block⟩
end Go.Proofs.Ythlmfjoiicnomaa
namespace Go.Proofs.Ythlmfjoiicnomaa
open Go.RowKit
set_option linter.unusedVariables false
set_option linter.unusedSimpArgs false

/-- The operation may turn the world, or runs code: it is carried out by its own rule. -/
def actsB (o : Oper) : Bool := match o.op with
  | .move _ | .assign _ | .nilCheck _ | .pick .. | .load .. | .indexAddr .. | .fieldAddr .. | .index .. | .field .. | .binOp .. | .unOp .. | .convert .. | .slice .. | .extract .. => false
  | .call c => match c.callee with | .builtin .len | .builtin .cap => false | _ => true
  | _ => true
/-- The operation copies a slot. -/
def copyB (o : Oper) : Bool := match o.op with | .move _ | .assign _ => true | _ => false

section
variable {P : Program} {ops : Array Oper}

/-- One operation: carried out at (a, w), the rest K. -/
def mixOp (P : Program) (ops : Array Oper) (o : Oper) (K : Act → World → Prop) (a : Act) (w : World) : Prop :=
  if Region.wanted o (yielded ops a.tmps) then
    (if actsB o then o.wp P a w K (fun _ _ _ => False) else ∃ v, (execOp a.eval o).run P w = .ok (.value v) w ∧ K (a.put o.dst v) w)
  else K (a.put o.dst undef) w

def wpMix (P : Program) (ops : Array Oper) (Q : Act → World → Prop) : List Oper → Act → World → Prop
  | [], a, w => Q a w
  | o :: rest, a, w => mixOp P ops o (wpMix P ops Q rest) a w

theorem wpMix_nil {Q : Act → World → Prop} {a : Act} {w : World} (h : Q a w) : wpMix P ops Q [] a w := h

/-- An operation that acts. -/
theorem wpMix_act {Q : Act → World → Prop} {a : Act} {w : World} {o : Oper} {rest : List Oper} (hg : o.guard = none) (ha : actsB o = true)
    (h : ∀ K : Act → World → Prop, (∀ a w, wpMix P ops Q rest a w → K a w) → o.wp P a w K (fun _ _ _ => False)) : wpMix P ops Q (o :: rest) a w := by
  unfold wpMix mixOp
  rw [if_pos (by simp [Region.wanted, hg]), if_pos ha]
  exact h _ fun _ _ h => h

/-- An operation that reads: it ends in the world that it began in. -/
theorem wpMix_read {Q : Act → World → Prop} {a : Act} {w : World} {o : Oper} {rest : List Oper} (v : Value) (hg : o.guard = none) (ha : actsB o = false)
    (hr : (execOp a.eval o).run P w = .ok (.value v) w) (h : wpMix P ops Q rest (a.put o.dst v) w) : wpMix P ops Q (o :: rest) a w := by
  unfold wpMix mixOp
  rw [if_pos (by simp [Region.wanted, hg]), if_neg (by simp [ha])]
  exact ⟨v, hr, h⟩

/-- The same, in the form that the walk's own step takes. -/
theorem wpMix_still {Q : Act → World → Prop} {a : Act} {w : World} {o : Oper} {rest : List Oper} (hg : o.guard = none) (ha : actsB o = false)
    (h : ∀ K : Act → Prop, (∀ a, wpMix P ops Q rest a w → K a) → o.still P a w K) (hv : ∀ r w', (execOp a.eval o).run P w = .ok r w' → ∃ v, r = .value v) : wpMix P ops Q (o :: rest) a w := by
  have h1 := h _ fun _ h => h
  unfold Oper.still at h1
  cases hr : (execOp a.eval o).run P w with
  | halt x w' => rw [hr] at h1; simp [Oper.stillUpon] at h1
  | ok r w' =>
    obtain ⟨v, rfl⟩ := hv r w' hr
    rw [hr] at h1
    simp only [Oper.stillUpon] at h1
    obtain ⟨rfl, h1⟩ := h1
    exact wpMix_read v hg ha hr h1

/-- Guarded, and the guard says yes; or says no. -/
theorem wpMix_yes {Q : Act → World → Prop} {a : Act} {w : World} {d : Option Tmp} {op : Op} {t : TypeId} {p : String} {e : Array Edge} {g : Nat × Bool} {rest : List Oper} (hw : yielded ops a.tmps g.1 = some g.2)
    (h : wpMix P ops Q ({ dst := d, op := op, type := t, pos := p, after := e, guard := none } :: rest) a w) : wpMix P ops Q ({ dst := d, op := op, type := t, pos := p, after := e, guard := some g } :: rest) a w := by
  unfold wpMix mixOp at h ⊢
  rw [if_pos (by simp [Region.wanted])] at h
  rw [if_pos (by simp [Region.wanted, hw])]
  exact h
theorem wpMix_no {Q : Act → World → Prop} {a : Act} {w : World} {d : Option Tmp} {op : Op} {t : TypeId} {p : String} {e : Array Edge} {g : Nat × Bool} {rest : List Oper} (hw : (yielded ops a.tmps g.1 == some g.2) = false)
    (h : wpMix P ops Q rest (a.put d undef) w) : wpMix P ops Q ({ dst := d, op := op, type := t, pos := p, after := e, guard := some g } :: rest) a w := by
  unfold wpMix mixOp
  rw [if_neg (by simp [Region.wanted]; simpa using hw)]
  exact h

theorem upon_mono {o : Oper} {a : Act} {w : World} {K K' : Act → World → Prop} {Q : Exit → Act → World → Prop} (h : ∀ a w, K a w → K' a w)
    (hh : o.wp P a w K (fun _ _ _ => False)) : o.wp P a w K' Q := by
  unfold Oper.wp at *
  generalize (execOp a.eval o).run P w = r at *
  cases r with
  | ok n w' =>
    cases n <;> simp only [Oper.upon] at hh ⊢ <;>
      first
        | exact h _ _ hh
        | exact Calls.mono hh (fun e w'' he => by
            cases e with
            | returned v => exact h _ _ he
            | panicked c => exact he.elim
            | outgrown => obtain ⟨_, _, hf⟩ := he; exact hf.elim)
        | exact Rows.mono hh (fun _ _ he => h _ _ he)
  | halt x w' => cases x <;> simp only [Oper.upon] at hh ⊢

theorem mixOp_mono {o : Oper} {K K' : Act → World → Prop} (h : ∀ a w, K a w → K' a w) {a : Act} {w : World} (hh : mixOp P ops o K a w) : mixOp P ops o K' a w := by
  unfold mixOp at *
  split
  · rename_i hw
    rw [if_pos hw] at hh
    split
    · rename_i ha; rw [if_pos ha] at hh; exact upon_mono h hh
    · rename_i ha; rw [if_neg ha] at hh; obtain ⟨v, h1, h2⟩ := hh; exact ⟨v, h1, h _ _ h2⟩
  · rename_i hw
    rw [if_neg hw] at hh
    exact h _ _ hh

/-- What a reading operation yields, wanted or not. -/
def mixV (P : Program) (ops : Array Oper) (o : Oper) (a : Act) (w : World) (v : Value) : Prop :=
  if Region.wanted o (yielded ops a.tmps) then (execOp a.eval o).run P w = .ok (.value v) w else v = undef
theorem mixOp_read {o : Oper} (ho : actsB o = false) {K : Act → World → Prop} {a : Act} {w : World} : mixOp P ops o K a w ↔ ∃ v, mixV P ops o a w v ∧ K (a.put o.dst v) w := by
  unfold mixOp mixV
  split
  · simp [ho]
  · simp

theorem mixOp_act {o : Oper} (ho : actsB o = true) {K : Act → World → Prop} {a : Act} {w : World} : mixOp P ops o K a w = if Region.wanted o (yielded ops a.tmps) then o.wp P a w K (fun _ _ _ => False) else K (a.put o.dst undef) w := by
  unfold mixOp; rw [if_pos ho]

theorem copy_v {o : Oper} (ho : copyB o = true) (a : Act) : ∃ v, ∀ w, mixV P ops o a w v := by
  by_cases hw : Region.wanted o (yielded ops a.tmps) = true
  · cases hop : o.op <;> simp [copyB, hop] at ho
    all_goals
      rename_i x
      exact ⟨a.eval x, fun w => by unfold mixV; rw [if_pos hw]; simp [execOp, hop]⟩
  · exact ⟨undef, fun w => by unfold mixV; rw [if_neg hw]⟩
theorem copy_acts {o : Oper} (ho : copyB o = true) : actsB o = false := by
  cases hop : o.op <;> simp [copyB, hop] at ho <;> simp [actsB, hop]

theorem mixV_put {o : Oper} (hs : ∀ cs b, o.op ≠ .select cs b) {a : Act} {dst : Option Tmp} {u : Value} (h : ∀ d, dst = some d → d ∉ o.looksAt ops) {w : World} {v : Value} :
    mixV P ops o (a.put dst u) w v ↔ mixV P ops o a w v := by
  unfold mixV
  rw [wanted_put o a dst u h, execOp_put o hs a dst u h]

/-- The two may change places. -/
def swapB (ops : Array Oper) (x y : Oper) : Bool := x.apart ops y && (copyB x || copyB y || (!actsB x && !actsB y))

theorem mixOp_swap {x y : Oper} (hx : ∀ cs b, x.op ≠ .select cs b) (hy : ∀ cs b, y.op ≠ .select cs b) (h : swapB ops x y = true) {K : Act → World → Prop} {a : Act} {w : World}
    (hh : mixOp P ops x (mixOp P ops y K) a w) : mixOp P ops y (mixOp P ops x K) a w := by
  simp only [swapB, Bool.and_eq_true, Bool.or_eq_true, Bool.not_eq_true'] at h
  obtain ⟨hap, h⟩ := h
  obtain ⟨h1, h2, h3⟩ := Oper.apart_spec hap
  have h2' : ∀ d, y.dst = some d → x.dst ≠ some d := fun d hd e => h2 d e hd
  -- two that read
  have two : actsB x = false → actsB y = false → mixOp P ops y (mixOp P ops x K) a w := by
    intro ax ay
    rw [mixOp_read ax] at hh
    obtain ⟨v, hv, hh⟩ := hh
    rw [mixOp_read ay] at hh
    obtain ⟨u, hu, hh⟩ := hh
    rw [mixV_put hy h1] at hu
    refine (mixOp_read ay).2 ⟨u, hu, (mixOp_read ax).2 ⟨v, (mixV_put hx h3).2 hv, ?_⟩⟩
    rw [Act.put_comm _ u v h2']
    exact hh
  rcases h with (hc | hc) | hc
  · -- x copies
    have ax := copy_acts hc
    by_cases ay : actsB y = true
    · obtain ⟨v, hv⟩ := copy_v (P := P) (ops := ops) hc a
      rw [mixOp_read ax] at hh
      obtain ⟨v', hv', hh⟩ := hh
      -- what x yields from any act that differs in y's slot alone
      have key : ∀ (b : Act) (u : Value) (w' : World), (∀ w, mixV P ops x b w v') → K ((b.put x.dst v').put y.dst u) w' → mixOp P ops x K (b.put y.dst u) w' := by
        intro b u w' hb hk
        exact (mixOp_read ax).2 ⟨v', (mixV_put hx h3).2 (hb w'), by rw [Act.put_comm _ u v' h2']; exact hk⟩
      have hvv : ∀ w, mixV P ops x a w v' := by
        have e : v = v' := by
          have e1 := hv w
          unfold mixV at e1 hv'
          split at e1
          · rename_i hw; rw [if_pos hw] at hv'; rw [e1] at hv'; simpa using hv'
          · rename_i hw; rw [if_neg hw] at hv'; rw [e1, hv']
        rw [← e]; exact hv
      rw [mixOp_act ay] at hh ⊢
      rw [wanted_put y a x.dst v' h1] at hh
      split
      · rename_i hw
        rw [if_pos hw] at hh
        unfold Oper.wp at hh ⊢
        rw [execOp_put y hy a x.dst v' h1] at hh
        generalize (execOp a.eval y).run P w = r at hh ⊢
        cases r with
        | ok n w' =>
          cases n <;> simp only [Oper.upon] at hh ⊢ <;>
            first
              | exact hh
              | exact key a _ _ hvv hh
              | exact Calls.mono hh (fun e w'' he => by
                  cases e with
                  | returned u => exact key a _ _ hvv he
                  | panicked c => exact he
                  | outgrown => exact he)
              | exact Rows.mono hh (fun _ _ he => key a _ _ hvv he)
              | (rename_i d
                 refine key { a with defers := d :: a.defers } undef w' (fun w => ?_) (by rw [← Act.put_defers]; exact hh)
                 exact hvv w)
        | halt q w' => cases q <;> simp only [Oper.upon] at hh ⊢
      · rename_i hw
        rw [if_neg hw] at hh
        exact key a _ _ hvv hh
    · exact two ax (by simpa using ay)
  · -- y copies
    have ay := copy_acts hc
    by_cases ax : actsB x = true
    · obtain ⟨u, hu⟩ := copy_v (P := P) (ops := ops) hc a
      refine (mixOp_read ay).2 ⟨u, hu w, ?_⟩
      have same : ∀ (b : Act) (v : Value) (w' : World), (∀ w, mixV P ops y b w u) → mixOp P ops y K (b.put x.dst v) w' → K ((b.put y.dst u).put x.dst v) w' := by
        intro b v w' hb hk
        rw [mixOp_read ay] at hk
        obtain ⟨u', hu', hk⟩ := hk
        rw [mixV_put hy h1] at hu'
        have e : u = u' := by
          have e1 := hb w'
          unfold mixV at e1 hu'
          split at e1
          · rename_i hw; rw [if_pos hw] at hu'; rw [e1] at hu'; simpa using hu'
          · rename_i hw; rw [if_neg hw] at hu'; rw [e1, hu']
        subst e
        rw [Act.put_comm _ u v h2']
        exact hk
      rw [mixOp_act ax] at hh ⊢
      rw [wanted_put x a y.dst u h3]
      split
      · rename_i hw
        rw [if_pos hw] at hh
        unfold Oper.wp at hh ⊢
        rw [execOp_put x hx a y.dst u h3]
        generalize (execOp a.eval x).run P w = r at hh ⊢
        cases r with
        | ok n w' =>
          cases n <;> simp only [Oper.upon] at hh ⊢ <;>
            first
              | exact hh
              | exact same a _ _ hu hh
              | exact Calls.mono hh (fun e w'' he => by
                  cases e with
                  | returned u => exact same a _ _ hu he
                  | panicked c => exact he
                  | outgrown => exact he)
              | exact Rows.mono hh (fun _ _ he => same a _ _ hu he)
              | (rename_i d
                 rw [Act.put_defers]
                 exact same { a with defers := d :: a.defers } undef w' (fun w => hu w) hh)
        | halt q w' => cases q <;> simp only [Oper.upon] at hh ⊢
      · rename_i hw
        rw [if_neg hw] at hh
        exact same a _ _ hu hh
    · exact two (by simpa using ax) ay
  · exact two hc.1 hc.2

/-- The operations with these numbers, one after the other. -/
def mixIxs (P : Program) (ops : Array Oper) (Q : Act → World → Prop) : List Nat → Act → World → Prop
  | [], a, w => Q a w
  | i :: rest, a, w => match ops[i]? with
    | none => mixIxs P ops Q rest a w
    | some o => mixOp P ops o (mixIxs P ops Q rest) a w

theorem mixIxs_eq {Q : Act → World → Prop} (l : List Oper) : ∀ k, (∀ j, l[j]? = ops[k + j]?) → mixIxs P ops Q (List.range' k l.length) = wpMix P ops Q l := by
  induction l with
  | nil => intro k _; funext a w; simp [mixIxs, wpMix]
  | cons o l ih =>
    intro k h
    have h0 : ops[k]? = some o := by simpa using (h 0).symm
    have ih' := ih (k + 1) (fun j => by have := h (j + 1); simpa [Nat.add_assoc, Nat.add_comm 1 j] using this)
    funext a w
    simp only [List.length_cons, List.range'_succ, mixIxs, h0, wpMix, ih']

def NoSel (ops : Array Oper) : Prop := ∀ (j : Nat) (o : Oper) cs b, ops[j]? = some o → o.op ≠ .select cs b

theorem mixIxs_front {Q : Act → World → Prop} (hs : NoSel ops) {i : Nat} {z : Oper} (hi : ops[i]? = some z) (r2 : List Nat) :
    ∀ (r1 : List Nat), (∀ y ∈ r1, ∀ x, ops[y]? = some x → swapB ops x z = true) → ∀ (a : Act) (w : World), mixIxs P ops Q (r1 ++ i :: r2) a w → mixIxs P ops Q (i :: (r1 ++ r2)) a w
  | [], _, a, w, h => h
  | y :: r1, hsw, a, w, h => by
    have ih := mixIxs_front (Q := Q) hs hi r2 r1 (fun y hy => hsw y (List.mem_cons_of_mem _ hy))
    simp only [List.cons_append, mixIxs] at h ⊢
    cases hy : ops[y]? with
    | none =>
      rw [hy] at h
      have := ih a w h
      simp only [mixIxs, hi] at this ⊢
      exact this
    | some x =>
      rw [hy] at h
      have h2 := mixOp_mono ih h
      simp only [mixIxs, hi] at h2 ⊢
      exact mixOp_swap (fun cs b => hs y x cs b hy) (fun cs b => hs i z cs b hi) (hsw y (List.mem_cons_self) x hy) h2

/-- y comes before i by the edges. -/
inductive Before (ops : Array Oper) : Nat → Nat → Prop
  | edge {i : Nat} {o : Oper} {e : Edge} (hi : ops[i]? = some o) (he : e ∈ o.after) (hb : Region.binds .any e = true) : Before ops e.on i
  | trans {y i : Nat} {o : Oper} {e : Edge} (hi : ops[i]? = some o) (he : e ∈ o.after) (hb : Region.binds .any e = true) (h : Before ops y e.on) : Before ops y i

def Closed (ops : Array Oper) (listed : Array Bool) : Prop := ∀ j o, ops[j]? = some o → listed.getD j false = true → ∀ e ∈ o.after, Region.binds .any e = true → listed.getD e.on false = true

theorem Before.listed {listed : Array Bool} (hc : Closed ops listed) {y i : Nat} (h : Before ops y i) : listed.getD i false = true → listed.getD y false = true := by
  induction h with
  | edge hi he hb => intro hl; exact hc _ _ hi hl _ he hb
  | trans hi he hb _ ih => intro hl; exact ih (hc _ _ hi hl _ he hb)

theorem Before.ready {listed : Array Bool} (hc : Closed ops listed) {y i : Nat} (h : Before ops y i) (hr : i ∈ Region.ready .any ops listed) : listed.getD y false = true := by
  obtain ⟨_, o, ho, hall⟩ := mem_ready.1 hr
  cases h with
  | edge hi he hb => rw [hi] at ho; cases ho; exact hall _ he hb
  | trans hi he hb h => rw [hi] at ho; cases ho; exact h.listed hc (hall _ he hb)

structure Mixed (ops : Array Oper) : Prop where
  sel : NoSel ops
  back : ∀ (i : Nat) o, ops[i]? = some o → ∀ e ∈ o.after, Region.binds .any e = true → e.on < i
  swap : ∀ (i : Nat) o, ops[i]? = some o → ∀ (y : Nat), y < i → ∀ x, ops[y]? = some x → Before ops y i ∨ swapB ops x o = true

def todoOf (n : Nat) (listed : Array Bool) : List Nat := (List.range n).filter fun j => !listed.getD j true

theorem mem_todo {n : Nat} {listed : Array Bool} {j : Nat} : j ∈ todoOf n listed ↔ j < n ∧ listed.getD j true = false := by simp [todoOf]

theorem wpAny_of_mix {Q : Exit → Act → World → Prop} (hm : Mixed ops) : ∀ (fuel : Nat) (listed : Array Bool) (a : Act) (w : World), listed.size = ops.size → Closed ops listed → (todoOf ops.size listed).length ≤ fuel →
    mixIxs P ops (fun a w => Q .normal a w) (todoOf ops.size listed) a w → wpAny P .any ops Q fuel listed a w := by
  have first : ∀ (listed : Array Bool), listed.size = ops.size → Region.ready .any ops listed = [] → todoOf ops.size listed = [] := by
    intro listed hsz hr
    by_cases ht : todoOf ops.size listed = []
    · exact ht
    · exfalso
      obtain ⟨i, r, hir⟩ := List.exists_cons_of_ne_nil ht
      have hi : i ∈ todoOf ops.size listed := by rw [hir]; exact List.mem_cons_self
      obtain ⟨hin, hil⟩ := mem_todo.1 hi
      have hsorted : (todoOf ops.size listed).Pairwise (· < ·) := List.Pairwise.filter _ List.pairwise_lt_range
      have : i ∈ Region.ready .any ops listed := by
        refine mem_ready.2 ⟨hil, ops[i], by simp [hin], fun e he hb => ?_⟩
        have hlt := hm.back i _ (by simp [hin]) e he hb
        cases hl : listed.getD e.on false with
        | true => rfl
        | false =>
          exfalso
          have hmem : e.on ∈ todoOf ops.size listed := mem_todo.2 ⟨by omega, getD_in (by omega) hl⟩
          rw [hir] at hmem hsorted
          rcases List.mem_cons.1 hmem with h | h
          · omega
          · have := (List.pairwise_cons.1 hsorted).1 _ h; omega
      rw [hr] at this
      simp at this
  intro fuel
  induction fuel with
  | zero =>
    intro listed a w hsz hc hlen h
    have ht : todoOf ops.size listed = [] := List.eq_nil_of_length_eq_zero (by omega)
    rw [ht] at h
    refine ⟨?_, h⟩
    cases hr : Region.ready .any ops listed with
    | nil => rfl
    | cons i r =>
      have hi : i ∈ Region.ready .any ops listed := by rw [hr]; exact List.mem_cons_self
      obtain ⟨hl, o, ho, _⟩ := mem_ready.1 hi
      have : i ∈ todoOf ops.size listed := mem_todo.2 ⟨(Array.getElem?_eq_some_iff.1 ho).1, hl⟩
      rw [ht] at this
      simp at this
  | succ fuel ih =>
    intro listed a w hsz hc hlen h
    refine ⟨fun hr => by rw [first listed hsz hr] at h; exact h, fun i hi => ?_⟩
    obtain ⟨hl, o, ho, hall⟩ := mem_ready.1 hi
    have hin : i < ops.size := (Array.getElem?_eq_some_iff.1 ho).1
    have hmem : i ∈ todoOf ops.size listed := mem_todo.2 ⟨hin, hl⟩
    obtain ⟨r1, r2, hr⟩ := List.append_of_mem hmem
    have hsorted : (todoOf ops.size listed).Pairwise (· < ·) := List.Pairwise.filter _ List.pairwise_lt_range
    rw [hr] at hsorted h
    have hlt1 : ∀ y ∈ r1, y < i := fun y hy => (List.pairwise_append.1 hsorted).2.2 y hy i List.mem_cons_self
    have hlt2 : ∀ y ∈ r2, i < y := fun y hy => (List.pairwise_cons.1 (List.pairwise_append.1 hsorted).2.1).1 y hy
    have hfront := mixIxs_front (P := P) (Q := fun a w => Q .normal a w) hm.sel ho r2 r1 (fun y hy x hx => by
      rcases hm.swap i o ho y (hlt1 y hy) x hx with hb | hb
      · exfalso
        have h1 := hb.ready hc hi
        have h2 : y ∈ todoOf ops.size listed := by rw [hr]; exact List.mem_append_left _ hy
        have h3 := getD_both (mem_todo.1 h2).2
        rw [h1] at h3
        cases h3
      · exact hb) a w h
    have htodo : todoOf ops.size (listed.setIfInBounds i true) = r1 ++ r2 := by
      have e : todoOf ops.size (listed.setIfInBounds i true) = (todoOf ops.size listed).filter (fun j => decide (j ≠ i)) := by
        unfold todoOf
        rw [List.filter_filter]
        apply List.filter_congr
        intro j hj
        by_cases hji : j = i
        · subst hji
          have hjs : j < listed.size := by omega
          simp [hjs]
        · rw [getD_set_ne true (fun e => hji e.symm)]
          simp [hji]
      rw [e, hr, List.filter_append, List.filter_cons]
      simp only [ne_eq, not_true_eq_false, decide_false, Bool.false_eq_true, if_false]
      rw [List.filter_eq_self.2 (fun y hy => by have := hlt1 y hy; simp; omega), List.filter_eq_self.2 (fun y hy => by have := hlt2 y hy; simp; omega)]
    have hnext : Closed ops (listed.setIfInBounds i true) := by
      intro j oj hj hlj e he hb
      by_cases hji : j = i
      · subst hji
        rw [ho] at hj
        cases hj
        exact getD_set_true (hall e he hb)
      · rw [getD_set_ne false (fun e => hji e.symm)] at hlj
        exact getD_set_true (hc j oj hj hlj e he hb)
    have hlen' : (todoOf ops.size (listed.setIfInBounds i true)).length ≤ fuel := by
      rw [htodo]
      rw [hr] at hlen
      simp at hlen ⊢
      omega
    have ih' := fun a w => ih (listed.setIfInBounds i true) a w (by simpa using hsz) hnext hlen'
    rw [htodo] at ih'
    simp only [mixIxs, ho] at hfront
    -- from the rule of one operation to the base's
    unfold wpOp
    simp only [ho]
    unfold mixOp at hfront
    split
    · rename_i hw
      rw [if_pos hw] at hfront
      refine .inl ?_
      split at hfront
      · exact upon_mono ih' hfront
      · obtain ⟨v, hv, hk⟩ := hfront
        unfold Oper.wp
        rw [hv]
        exact ih' _ _ hk
    · rename_i hw
      rw [if_neg hw] at hfront
      exact ih' _ _ hfront

/-- The operations that come before one, as bits. -/
def maskOf (ms : List Nat) (o : Oper) : Nat := o.after.toList.foldl (fun m e => if Region.binds .any e then m ||| (1 <<< e.on) ||| ms.getD e.on 0 else m) 0
def mixGo (ops : Array Oper) : List Oper → Nat → List Nat → Bool
  | [], _, _ => true
  | o :: rest, k, ms =>
    (o.after.toList.all fun e => !Region.binds .any e || decide (e.on < k)) &&
    ((List.range k).all fun y => (maskOf ms o).testBit y || (match ops[y]? with | some x => swapB ops x o | none => true)) &&
    mixGo ops rest (k + 1) (ms ++ [maskOf ms o])
def mixB (ops : Array Oper) : Bool := Region.noSelect ops && mixGo ops ops.toList 0 []

theorem maskOf_spec {ms : List Nat} {o : Oper} {k : Nat} (ho : ops[k]? = some o) (hms : ∀ i, ∀ y, (ms.getD i 0).testBit y = true → Before ops y i) {y : Nat} (h : (maskOf ms o).testBit y = true) : Before ops y k := by
  have gen : ∀ (l : List Edge), (∀ e ∈ l, e ∈ o.after) → ∀ m, (∀ y, m.testBit y = true → Before ops y k) →
      ∀ y, (l.foldl (fun m e => if Region.binds .any e then m ||| (1 <<< e.on) ||| ms.getD e.on 0 else m) m).testBit y = true → Before ops y k := by
    intro l
    induction l with
    | nil => intro _ m hm y hy; exact hm y hy
    | cons e l ih =>
      intro hl m hm y hy
      refine ih (fun e he => hl e (List.mem_cons_of_mem _ he)) _ ?_ y hy
      intro y hy
      dsimp only at hy
      split at hy
      · rename_i hb
        simp only [Nat.testBit_or, Bool.or_eq_true] at hy
        rcases hy with (hy | hy) | hy
        · exact hm y hy
        · rw [Nat.testBit_shiftLeft] at hy
          simp only [Bool.and_eq_true, decide_eq_true_eq] at hy
          have h1 : y - e.on = 0 := by
            have := hy.2
            rw [Nat.testBit_one_eq_true_iff_self_eq_zero] at this
            exact this
          have : y = e.on := by omega
          subst this
          exact .edge ho (hl e List.mem_cons_self) hb
        · exact .trans ho (hl e List.mem_cons_self) hb (hms _ _ hy)
      · exact hm y hy
  exact gen o.after.toList (fun e he => by simpa using he) 0 (by simp) y h

theorem mixGo_spec : ∀ (l : List Oper) (k : Nat) (ms : List Nat), (∀ j, l[j]? = ops[k + j]?) → (∀ i, ∀ y, (ms.getD i 0).testBit y = true → Before ops y i) → ms.length = k → mixGo ops l k ms = true →
    ∀ (i : Nat) o, k ≤ i → ops[i]? = some o → (∀ e ∈ o.after, Region.binds .any e = true → e.on < i) ∧ ∀ (y : Nat), y < i → ∀ x, ops[y]? = some x → Before ops y i ∨ swapB ops x o = true
  | [], k, ms, hl, _, _, _, i, o, hki, ho => by
    have := hl (i - k)
    rw [show k + (i - k) = i by omega, ho] at this
    simp at this
  | o' :: rest, k, ms, hl, hms, hlen, h, i, o, hki, ho => by
    have h0 : ops[k]? = some o' := by simpa using (hl 0).symm
    simp only [mixGo, Bool.and_eq_true, List.all_eq_true, List.mem_range, Bool.or_eq_true, Bool.not_eq_true', decide_eq_true_eq] at h
    obtain ⟨⟨h1, h2⟩, h3⟩ := h
    by_cases hik : i = k
    · subst hik
      rw [h0] at ho
      cases ho
      refine ⟨fun e he hb => ?_, fun y hy x hx => ?_⟩
      · rcases h1 e (by simpa using he) with h | h
        · rw [hb] at h; cases h
        · exact h
      · have := h2 y hy
        rw [hx] at this
        exact this.imp (maskOf_spec h0 hms) id
    · refine mixGo_spec rest (k + 1) _ (fun j => by have := hl (j + 1); simpa [Nat.add_assoc, Nat.add_comm 1 j] using this) ?_ (by simp [hlen]) h3 i o (by omega) ho
      intro i y hy
      by_cases hi : i < k
      · exact hms i y (by simpa [List.getD, List.getElem?_append, hlen, hi] using hy)
      · by_cases hi' : i = k
        · subst hi'
          refine maskOf_spec h0 hms ?_
          simpa [List.getD, List.getElem?_append, hlen] using hy
        · simp [List.getD, List.getElem?_append, hlen, hi, show ¬ i - k = 0 by omega] at hy

theorem mixed_of (h : mixB ops = true) : Mixed ops := by
  simp only [mixB, Bool.and_eq_true] at h
  have key := mixGo_spec (ops := ops) ops.toList 0 [] (by simp) (by simp) rfl h.2
  exact ⟨fun j o cs b => Region.noSelect_spec h.1 j o cs b, fun i o ho => (key i o (Nat.zero_le _) ho).1, fun i o ho => (key i o (Nat.zero_le _) ho).2⟩

/-- THE RULE. -/
theorem wp_region_mix {id : Nat} {Q : Exit → Act → World → Prop} {a : Act} {w : World} {l : List Oper} (hm : P.follows .mixedOrders = true) (hB : mixB l.toArray = true)
    (h : wpMix P l.toArray (fun a w => Q .normal a w) l a w.drew) : (Code.region id l.toArray true).wp P Q a w := by
  refine wp_region_any hm ?_
  refine wpAny_of_mix (mixed_of hB) _ _ a _ (by simp) (fun j o ho hl => ?_) ?_ ?_
  · rw [getD_replicate_false] at hl; cases hl
  · exact Nat.le_trans (List.length_filter_le _ _) (by simp)
  · have e : todoOf l.toArray.size (Array.replicate l.toArray.size false) = List.range' 0 l.length := by
      rw [← List.range_eq_range', todoOf, List.filter_eq_self.2]
      · simp
      · intro j hj
        have hj' : j < l.length := by simpa using hj
        simp [hj']
    rw [e, mixIxs_eq l 0 (by simp)]
    exact h

theorem run_value {s : Sem Value} {w w' : World} {r : Next} (h : (do pure (Next.value (← s)) : Sem Next).run P w = .ok r w') : ∃ v, r = .value v := by
  simp only [Sem.run_bind] at h
  cases hs : s.run P w with
  | halt x w1 => rw [hs] at h; simp at h
  | ok v w1 => rw [hs] at h; simp at h; exact ⟨v, h.1.symm⟩

theorem run_last {α : Type} {s : Sem α} {f : α → Sem Next} (hf : ∀ (a : α) (w w' : World) (r : Next), (f a).run P w = .ok r w' → ∃ v, r = .value v) {w w' : World} {r : Next} (h : (s >>= f).run P w = .ok r w') : ∃ v, r = .value v := by
  rw [Sem.run_bind] at h
  cases hs : s.run P w with
  | halt x w1 => rw [hs] at h; simp at h
  | ok v w1 => rw [hs] at h; exact hf v w1 w' r h

theorem reads_value {o : Oper} (ha : actsB o = false) {ρ : Operand → Value} {w w' : World} {r : Next} (h : (execOp ρ o).run P w = .ok r w') : ∃ v, r = .value v := by
  unfold execOp at h
  cases hop : o.op <;> simp only [actsB, hop] at ha <;> (try rw [hop] at h) <;> first
    | exact run_value h
    | (simp at h; exact ⟨_, h.1.symm⟩)
    | cases ha
    | skip
  case nilCheck x =>
    dsimp only at h
    generalize ρ x = v at h
    cases v
    case pointer ad => cases ad <;> first | (simp at h; exact ⟨_, h.1.symm⟩) | (simp [runtimePanic, goPanic, go_sem] at h)
    case nilIface => simp [runtimePanic, goPanic, go_sem] at h
    case nilFunc => simp [runtimePanic, goPanic, go_sem] at h
    case func fn first captured =>
      cases fn
      case method name =>
        dsimp only at h
        split at h
        · simp [runtimePanic, goPanic, go_sem] at h
        · refine run_last (fun p w w' r h => ?_) h
          refine run_last (fun b w w' r h => ?_) h
          split at h
          · refine run_last (fun b w w' r h => ?_) h
            simp at h
            exact ⟨_, h.1.symm⟩
          · simp at h
            exact ⟨_, h.1.symm⟩
        · simp at h; exact ⟨_, h.1.symm⟩
      all_goals (simp at h; exact ⟨_, h.1.symm⟩)
    all_goals (simp at h; exact ⟨_, h.1.symm⟩)
  case pick c a b =>
    simp only [Sem.run_bind] at h
    cases hs : (asBool (ρ c)).run P w with
    | halt x w1 => rw [hs] at h; simp at h
    | ok v w1 => rw [hs] at h; simp at h; exact ⟨_, h.1.symm⟩
  case call c =>
    cases hc : c.callee with
    | value f => rw [hc] at ha; cases ha
    | invoke r m => rw [hc] at ha; cases ha
    | builtin b =>
      rw [hc] at ha
      simp only [resolve, hc, Sem.run_bind, Sem.run_pure, Result.andThen_ok, invoke] at h
      cases b <;> first | exact run_value h | cases ha

/-- A reading operation, in the form that the walk's own step takes. -/
theorem wpMix_rd {Q : Act → World → Prop} {a : Act} {w : World} {o : Oper} {rest : List Oper} (hg : o.guard = none) (ha : actsB o = false)
    (h : ∀ K : Act → Prop, (∀ a, wpMix P ops Q rest a w → K a) → o.still P a w K) : wpMix P ops Q (o :: rest) a w :=
  wpMix_still hg ha h fun _ _ hr => reads_value ha hr

theorem wpMix_append_own {Q : Act → World → Prop} {a : Act} {w : World} {o : Oper} {rest : List Oper} (hgd : o.guard = none) (s x : Operand) (t : TypeId)
    (ho : o.op = .call { callee := .builtin .append, args := #[s, x], argTypes := #[t, t] })
    (base : Nat) (e : TypeId) (i : TypeInfo) (z : Value) (size bytes : Nat) (ht : P.underlying t = some (.slice e)) (hi : P.info? e = some i) (hz : i.zero = some z)
    (hsize : i.size = size) (hby : i.bytes = bytes) (hzs : z.cells.size = size) (hsz : 0 < size)
    (v : Value) (n : Nat) (xs : List Value) (hs : a.eval s = v) (hown : w.ownsRow base e size v n xs)
    (ad : Addr) (m c : Nat) (news : List Value) (hx : a.eval x = .slice (some ad) m c) (hl : news.length = m * size) (hnews : ∀ j u, news[j]? = some u → w.cell? (ad.add j) = some u) (h1 : ∀ u ∈ news, u.oneCell' = true)
    (h63 : n + m ≤ maxLen) (hbytes : (n + m) * bytes ≤ 140737488355328) (hbase : base ≤ w.heap.size)
    (h : ∀ v' w', w'.ownsRow base e size v' (n + m) (xs ++ news) → w.grownBy w' v.ownBlock → wpMix P ops Q rest (a.put o.dst v') w') : wpMix P ops Q (o :: rest) a w :=
  wpMix_act hgd (by simp [actsB, ho]) fun _ hK => wp_append_own w s x t ho base e i z size bytes ht hi hz hsize hby hzs hsz v n xs hs hown ad m c news hx hl hnews h1 h63 hbytes hbase fun v' w' h2 h3 _ => hK _ _ (h v' w' h2 h3)

/-- Append of one cell that has just been laid in a block of its own. -/
theorem wpMix_append_one {Q : Act → World → Prop} {a : Act} {w : World} {o : Oper} {rest : List Oper} (hgd : o.guard = none) (s x : Operand) (t : TypeId)
    (ho : o.op = .call { callee := .builtin .append, args := #[s, x], argTypes := #[t, t] })
    (base : Nat) (e : TypeId) (z : Value) (bytes : Nat) (ht : P.underlying t = some (.slice e)) (hi : (P.info? e).map (fun i => (i.zero, i.size, i.bytes)) = some (some z, 1, bytes)) (hzs : z.cells.size = 1)
    (v : Value) (n : Nat) (xs : List Value) (hs : a.eval s = v) (hown : w.ownsRow base e 1 v n xs)
    (ad : Addr) (u : Value) (hx : a.eval x = .slice (some ad) 1 1) (hu : w.cell? ad = some u) (h1 : u.oneCell' = true)
    (h63 : n + 1 ≤ 1000000000) (hbytes : bytes ≤ 1000) (hbase : base ≤ w.heap.size)
    (h : ∀ v' w', w'.ownsRow base e 1 v' (n + 1) (xs ++ [u]) → w.grownBy w' v.ownBlock → wpMix P ops Q rest (a.put o.dst v') w') : wpMix P ops Q (o :: rest) a w := by
  obtain ⟨i, h2, hz, h3, h4⟩ := info_parts hi
  refine wpMix_append_own hgd s x t ho base e i z 1 bytes ht h2 hz h3 h4 hzs (by omega) v n xs hs hown ad 1 1 [u] hx rfl ?_ (by simpa using h1) (by unfold maxLen; omega) ?_ hbase h
  · intro j u' hj
    match j, hj with
    | 0, hj => simp at hj; subst hj; simpa [Addr.add] using hu
  · have : (n + 1) * bytes ≤ 1000000000 * 1000 := Nat.mul_le_mul h63 hbytes
    omega
end
end Go.Proofs.Ythlmfjoiicnomaa
namespace Go.Proofs.Ythlmfjoiicnomaa.MQ
open Go.RowKit
set_option linter.unusedVariables false
set_option linter.unusedSimpArgs false

/-- The operation may turn the world, or runs code: it is carried out by its own rule. -/
def actsB (q : List Nat) (o : Oper) : Bool := match o.op with
  | .move _ | .assign _ | .nilCheck _ | .pick .. | .load .. | .indexAddr .. | .fieldAddr .. | .index .. | .field .. | .binOp .. | .unOp .. | .convert .. | .slice .. | .extract .. => false
  | .call c => match c.callee with | .builtin .len | .builtin .cap => false | .value (.func f) => !q.contains f | _ => true
  | _ => true
/-- The outcome is the value v, or a call that hands back v, and the world is as it was. -/
def yields (P : Program) (r : Result Next) (w : World) (v : Value) : Prop :=
  r = .ok (.value v) w ∨ ∃ f args, r = .ok (.enter f args) w ∧ Calls P f args w fun e w' => e = .returned v ∧ w' = w

section
variable {P : Program} {q : List Nat} {ops : Array Oper}

/-- One operation: carried out at (a, w), the rest K. -/
def mixOp (q : List Nat) (P : Program) (ops : Array Oper) (o : Oper) (K : Act → World → Prop) (a : Act) (w : World) : Prop :=
  if Region.wanted o (yielded ops a.tmps) then
    (if actsB q o then o.wp P a w K (fun _ _ _ => False) else ∃ v, yields P ((execOp a.eval o).run P w) w v ∧ K (a.put o.dst v) w)
  else K (a.put o.dst undef) w

def wpMix (q : List Nat) (P : Program) (ops : Array Oper) (Q : Act → World → Prop) : List Oper → Act → World → Prop
  | [], a, w => Q a w
  | o :: rest, a, w => mixOp q P ops o (wpMix q P ops Q rest) a w

theorem wpMix_nil {Q : Act → World → Prop} {a : Act} {w : World} (h : Q a w) : wpMix q P ops Q [] a w := h

/-- An operation that acts. -/
theorem wpMix_act {Q : Act → World → Prop} {a : Act} {w : World} {o : Oper} {rest : List Oper} (hg : o.guard = none) (ha : actsB q o = true)
    (h : ∀ K : Act → World → Prop, (∀ a w, wpMix q P ops Q rest a w → K a w) → o.wp P a w K (fun _ _ _ => False)) : wpMix q P ops Q (o :: rest) a w := by
  unfold wpMix mixOp
  rw [if_pos (by simp [Region.wanted, hg]), if_pos ha]
  exact h _ fun _ _ h => h

/-- An operation that reads: it ends in the world that it began in. -/
theorem wpMix_read {Q : Act → World → Prop} {a : Act} {w : World} {o : Oper} {rest : List Oper} (v : Value) (hg : o.guard = none) (ha : actsB q o = false)
    (hr : yields P ((execOp a.eval o).run P w) w v) (h : wpMix q P ops Q rest (a.put o.dst v) w) : wpMix q P ops Q (o :: rest) a w := by
  unfold wpMix mixOp
  rw [if_pos (by simp [Region.wanted, hg]), if_neg (by simp [ha])]
  exact ⟨v, hr, h⟩

/-- The same, in the form that the walk's own step takes. -/
theorem wpMix_still {Q : Act → World → Prop} {a : Act} {w : World} {o : Oper} {rest : List Oper} (hg : o.guard = none) (ha : actsB q o = false)
    (h : ∀ K : Act → Prop, (∀ a, wpMix q P ops Q rest a w → K a) → o.still P a w K) (hv : ∀ r w', (execOp a.eval o).run P w = .ok r w' → ∃ v, r = .value v) : wpMix q P ops Q (o :: rest) a w := by
  have h1 := h _ fun _ h => h
  unfold Oper.still at h1
  cases hr : (execOp a.eval o).run P w with
  | halt x w' => rw [hr] at h1; simp [Oper.stillUpon] at h1
  | ok r w' =>
    obtain ⟨v, rfl⟩ := hv r w' hr
    rw [hr] at h1
    simp only [Oper.stillUpon] at h1
    obtain ⟨rfl, h1⟩ := h1
    exact wpMix_read v hg ha (.inl hr) h1

/-- Guarded, and the guard says yes; or says no. -/
theorem wpMix_yes {Q : Act → World → Prop} {a : Act} {w : World} {d : Option Tmp} {op : Op} {t : TypeId} {p : String} {e : Array Edge} {g : Nat × Bool} {rest : List Oper} (hw : yielded ops a.tmps g.1 = some g.2)
    (h : wpMix q P ops Q ({ dst := d, op := op, type := t, pos := p, after := e, guard := none } :: rest) a w) : wpMix q P ops Q ({ dst := d, op := op, type := t, pos := p, after := e, guard := some g } :: rest) a w := by
  unfold wpMix mixOp at h ⊢
  rw [if_pos (by simp [Region.wanted])] at h
  rw [if_pos (by simp [Region.wanted, hw])]
  exact h
theorem wpMix_no {Q : Act → World → Prop} {a : Act} {w : World} {d : Option Tmp} {op : Op} {t : TypeId} {p : String} {e : Array Edge} {g : Nat × Bool} {rest : List Oper} (hw : (yielded ops a.tmps g.1 == some g.2) = false)
    (h : wpMix q P ops Q rest (a.put d undef) w) : wpMix q P ops Q ({ dst := d, op := op, type := t, pos := p, after := e, guard := some g } :: rest) a w := by
  unfold wpMix mixOp
  rw [if_neg (by simp [Region.wanted]; simpa using hw)]
  exact h

theorem upon_mono {o : Oper} {a : Act} {w : World} {K K' : Act → World → Prop} {Q : Exit → Act → World → Prop} (h : ∀ a w, K a w → K' a w)
    (hh : o.wp P a w K (fun _ _ _ => False)) : o.wp P a w K' Q := by
  unfold Oper.wp at *
  generalize (execOp a.eval o).run P w = r at *
  cases r with
  | ok n w' =>
    cases n <;> simp only [Oper.upon] at hh ⊢ <;>
      first
        | exact h _ _ hh
        | exact Calls.mono hh (fun e w'' he => by
            cases e with
            | returned v => exact h _ _ he
            | panicked c => exact he.elim
            | outgrown => obtain ⟨_, _, hf⟩ := he; exact hf.elim)
        | exact Rows.mono hh (fun _ _ he => h _ _ he)
  | halt x w' => cases x <;> simp only [Oper.upon] at hh ⊢

theorem mixOp_mono {o : Oper} {K K' : Act → World → Prop} (h : ∀ a w, K a w → K' a w) {a : Act} {w : World} (hh : mixOp q P ops o K a w) : mixOp q P ops o K' a w := by
  unfold mixOp at *
  split
  · rename_i hw
    rw [if_pos hw] at hh
    split
    · rename_i ha; rw [if_pos ha] at hh; exact upon_mono h hh
    · rename_i ha; rw [if_neg ha] at hh; obtain ⟨v, h1, h2⟩ := hh; exact ⟨v, h1, h _ _ h2⟩
  · rename_i hw
    rw [if_neg hw] at hh
    exact h _ _ hh

/-- What a reading operation yields, wanted or not. -/
def mixV (P : Program) (ops : Array Oper) (o : Oper) (a : Act) (w : World) (v : Value) : Prop :=
  if Region.wanted o (yielded ops a.tmps) then yields P ((execOp a.eval o).run P w) w v else v = undef
theorem mixOp_read {o : Oper} (ho : actsB q o = false) {K : Act → World → Prop} {a : Act} {w : World} : mixOp q P ops o K a w ↔ ∃ v, mixV P ops o a w v ∧ K (a.put o.dst v) w := by
  unfold mixOp mixV
  split
  · simp [ho]
  · simp

theorem mixOp_act {o : Oper} (ho : actsB q o = true) {K : Act → World → Prop} {a : Act} {w : World} : mixOp q P ops o K a w = if Region.wanted o (yielded ops a.tmps) then o.wp P a w K (fun _ _ _ => False) else K (a.put o.dst undef) w := by
  unfold mixOp; rw [if_pos ho]

theorem copy_v {o : Oper} (ho : copyB o = true) (a : Act) : ∃ v, ∀ w, mixV P ops o a w v := by
  by_cases hw : Region.wanted o (yielded ops a.tmps) = true
  · cases hop : o.op <;> simp [copyB, hop] at ho
    all_goals
      rename_i x
      exact ⟨a.eval x, fun w => by unfold mixV; rw [if_pos hw]; exact .inl (by simp [execOp, hop])⟩
  · exact ⟨undef, fun w => by unfold mixV; rw [if_neg hw]⟩
theorem copy_one {o : Oper} (ho : copyB o = true) {a : Act} {w w' : World} {u v : Value} (hu : mixV P ops o a w u) (hv : mixV P ops o a w' v) : u = v := by
  unfold mixV at hu hv
  split at hu
  · rename_i hw
    rw [if_pos hw] at hv
    cases hop : o.op <;> simp [copyB, hop] at ho
    all_goals
      simp only [execOp, hop, Sem.run_pure] at hu hv
      rcases hu with hu | ⟨_, _, hu, _⟩ <;> simp at hu
      rcases hv with hv | ⟨_, _, hv, _⟩ <;> simp at hv
      exact hu.symm.trans hv
  · rename_i hw; rw [if_neg hw] at hv; rw [hu, hv]
theorem copy_acts {o : Oper} (ho : copyB o = true) : actsB q o = false := by
  cases hop : o.op <;> simp [copyB, hop] at ho <;> simp [actsB, hop]

theorem mixV_put {o : Oper} (hs : ∀ cs b, o.op ≠ .select cs b) {a : Act} {dst : Option Tmp} {u : Value} (h : ∀ d, dst = some d → d ∉ o.looksAt ops) {w : World} {v : Value} :
    mixV P ops o (a.put dst u) w v ↔ mixV P ops o a w v := by
  unfold mixV
  rw [wanted_put o a dst u h, execOp_put o hs a dst u h]

/-- The two may change places. -/
def swapB (q : List Nat) (ops : Array Oper) (x y : Oper) : Bool := x.apart ops y && (copyB x || copyB y || (!actsB q x && !actsB q y))

theorem mixOp_swap {x y : Oper} (hx : ∀ cs b, x.op ≠ .select cs b) (hy : ∀ cs b, y.op ≠ .select cs b) (h : swapB q ops x y = true) {K : Act → World → Prop} {a : Act} {w : World}
    (hh : mixOp q P ops x (mixOp q P ops y K) a w) : mixOp q P ops y (mixOp q P ops x K) a w := by
  simp only [swapB, Bool.and_eq_true, Bool.or_eq_true, Bool.not_eq_true'] at h
  obtain ⟨hap, h⟩ := h
  obtain ⟨h1, h2, h3⟩ := Oper.apart_spec hap
  have h2' : ∀ d, y.dst = some d → x.dst ≠ some d := fun d hd e => h2 d e hd
  -- two that read
  have two : actsB q x = false → actsB q y = false → mixOp q P ops y (mixOp q P ops x K) a w := by
    intro ax ay
    rw [mixOp_read ax] at hh
    obtain ⟨v, hv, hh⟩ := hh
    rw [mixOp_read ay] at hh
    obtain ⟨u, hu, hh⟩ := hh
    rw [mixV_put hy h1] at hu
    refine (mixOp_read ay).2 ⟨u, hu, (mixOp_read ax).2 ⟨v, (mixV_put hx h3).2 hv, ?_⟩⟩
    rw [Act.put_comm _ u v h2']
    exact hh
  rcases h with (hc | hc) | hc
  · -- x copies
    have ax := copy_acts (q := q) hc
    by_cases ay : actsB q y = true
    · obtain ⟨v, hv⟩ := copy_v (P := P) (ops := ops) hc a
      rw [mixOp_read ax] at hh
      obtain ⟨v', hv', hh⟩ := hh
      -- what x yields from any act that differs in y's slot alone
      have key : ∀ (b : Act) (u : Value) (w' : World), (∀ w, mixV P ops x b w v') → K ((b.put x.dst v').put y.dst u) w' → mixOp q P ops x K (b.put y.dst u) w' := by
        intro b u w' hb hk
        exact (mixOp_read ax).2 ⟨v', (mixV_put hx h3).2 (hb w'), by rw [Act.put_comm _ u v' h2']; exact hk⟩
      have hvv : ∀ w, mixV P ops x a w v' := by
        have e : v = v' := copy_one hc (hv w) hv'
        rw [← e]; exact hv
      rw [mixOp_act ay] at hh ⊢
      rw [wanted_put y a x.dst v' h1] at hh
      split
      · rename_i hw
        rw [if_pos hw] at hh
        unfold Oper.wp at hh ⊢
        rw [execOp_put y hy a x.dst v' h1] at hh
        generalize (execOp a.eval y).run P w = r at hh ⊢
        cases r with
        | ok n w' =>
          cases n <;> simp only [Oper.upon] at hh ⊢ <;>
            first
              | exact hh
              | exact key a _ _ hvv hh
              | exact Calls.mono hh (fun e w'' he => by
                  cases e with
                  | returned u => exact key a _ _ hvv he
                  | panicked c => exact he
                  | outgrown => exact he)
              | exact Rows.mono hh (fun _ _ he => key a _ _ hvv he)
              | (rename_i d
                 refine key { a with defers := d :: a.defers } undef w' (fun w => ?_) (by rw [← Act.put_defers]; exact hh)
                 exact hvv w)
        | halt q w' => cases q <;> simp only [Oper.upon] at hh ⊢
      · rename_i hw
        rw [if_neg hw] at hh
        exact key a _ _ hvv hh
    · exact two ax (by simpa using ay)
  · -- y copies
    have ay := copy_acts (q := q) hc
    by_cases ax : actsB q x = true
    · obtain ⟨u, hu⟩ := copy_v (P := P) (ops := ops) hc a
      refine (mixOp_read ay).2 ⟨u, hu w, ?_⟩
      have same : ∀ (b : Act) (v : Value) (w' : World), (∀ w, mixV P ops y b w u) → mixOp q P ops y K (b.put x.dst v) w' → K ((b.put y.dst u).put x.dst v) w' := by
        intro b v w' hb hk
        rw [mixOp_read ay] at hk
        obtain ⟨u', hu', hk⟩ := hk
        rw [mixV_put hy h1] at hu'
        have e : u = u' := copy_one hc (hb w') hu'
        subst e
        rw [Act.put_comm _ u v h2']
        exact hk
      rw [mixOp_act ax] at hh ⊢
      rw [wanted_put x a y.dst u h3]
      split
      · rename_i hw
        rw [if_pos hw] at hh
        unfold Oper.wp at hh ⊢
        rw [execOp_put x hx a y.dst u h3]
        generalize (execOp a.eval x).run P w = r at hh ⊢
        cases r with
        | ok n w' =>
          cases n <;> simp only [Oper.upon] at hh ⊢ <;>
            first
              | exact hh
              | exact same a _ _ hu hh
              | exact Calls.mono hh (fun e w'' he => by
                  cases e with
                  | returned u => exact same a _ _ hu he
                  | panicked c => exact he
                  | outgrown => exact he)
              | exact Rows.mono hh (fun _ _ he => same a _ _ hu he)
              | (rename_i d
                 rw [Act.put_defers]
                 exact same { a with defers := d :: a.defers } undef w' (fun w => hu w) hh)
        | halt q w' => cases q <;> simp only [Oper.upon] at hh ⊢
      · rename_i hw
        rw [if_neg hw] at hh
        exact same a _ _ hu hh
    · exact two (by simpa using ax) ay
  · exact two hc.1 hc.2

/-- The operations with these numbers, one after the other. -/
def mixIxs (q : List Nat) (P : Program) (ops : Array Oper) (Q : Act → World → Prop) : List Nat → Act → World → Prop
  | [], a, w => Q a w
  | i :: rest, a, w => match ops[i]? with
    | none => mixIxs q P ops Q rest a w
    | some o => mixOp q P ops o (mixIxs q P ops Q rest) a w

theorem mixIxs_eq {Q : Act → World → Prop} (l : List Oper) : ∀ k, (∀ j, l[j]? = ops[k + j]?) → mixIxs q P ops Q (List.range' k l.length) = wpMix q P ops Q l := by
  induction l with
  | nil => intro k _; funext a w; simp [mixIxs, wpMix]
  | cons o l ih =>
    intro k h
    have h0 : ops[k]? = some o := by simpa using (h 0).symm
    have ih' := ih (k + 1) (fun j => by have := h (j + 1); simpa [Nat.add_assoc, Nat.add_comm 1 j] using this)
    funext a w
    simp only [List.length_cons, List.range'_succ, mixIxs, h0, wpMix, ih']

def NoSel (ops : Array Oper) : Prop := ∀ (j : Nat) (o : Oper) cs b, ops[j]? = some o → o.op ≠ .select cs b

theorem mixIxs_front {Q : Act → World → Prop} (hs : NoSel ops) {i : Nat} {z : Oper} (hi : ops[i]? = some z) (r2 : List Nat) :
    ∀ (r1 : List Nat), (∀ y ∈ r1, ∀ x, ops[y]? = some x → swapB q ops x z = true) → ∀ (a : Act) (w : World), mixIxs q P ops Q (r1 ++ i :: r2) a w → mixIxs q P ops Q (i :: (r1 ++ r2)) a w
  | [], _, a, w, h => h
  | y :: r1, hsw, a, w, h => by
    have ih := mixIxs_front (Q := Q) hs hi r2 r1 (fun y hy => hsw y (List.mem_cons_of_mem _ hy))
    simp only [List.cons_append, mixIxs] at h ⊢
    cases hy : ops[y]? with
    | none =>
      rw [hy] at h
      have := ih a w h
      simp only [mixIxs, hi] at this ⊢
      exact this
    | some x =>
      rw [hy] at h
      have h2 := mixOp_mono ih h
      simp only [mixIxs, hi] at h2 ⊢
      exact mixOp_swap (fun cs b => hs y x cs b hy) (fun cs b => hs i z cs b hi) (hsw y (List.mem_cons_self) x hy) h2

/-- y comes before i by the edges. -/
inductive Before (ops : Array Oper) : Nat → Nat → Prop
  | edge {i : Nat} {o : Oper} {e : Edge} (hi : ops[i]? = some o) (he : e ∈ o.after) (hb : Region.binds .any e = true) : Before ops e.on i
  | trans {y i : Nat} {o : Oper} {e : Edge} (hi : ops[i]? = some o) (he : e ∈ o.after) (hb : Region.binds .any e = true) (h : Before ops y e.on) : Before ops y i

def Closed (ops : Array Oper) (listed : Array Bool) : Prop := ∀ j o, ops[j]? = some o → listed.getD j false = true → ∀ e ∈ o.after, Region.binds .any e = true → listed.getD e.on false = true

theorem Before.listed {listed : Array Bool} (hc : Closed ops listed) {y i : Nat} (h : Before ops y i) : listed.getD i false = true → listed.getD y false = true := by
  induction h with
  | edge hi he hb => intro hl; exact hc _ _ hi hl _ he hb
  | trans hi he hb _ ih => intro hl; exact ih (hc _ _ hi hl _ he hb)

theorem Before.ready {listed : Array Bool} (hc : Closed ops listed) {y i : Nat} (h : Before ops y i) (hr : i ∈ Region.ready .any ops listed) : listed.getD y false = true := by
  obtain ⟨_, o, ho, hall⟩ := mem_ready.1 hr
  cases h with
  | edge hi he hb => rw [hi] at ho; cases ho; exact hall _ he hb
  | trans hi he hb h => rw [hi] at ho; cases ho; exact h.listed hc (hall _ he hb)

structure Mixed (q : List Nat) (ops : Array Oper) : Prop where
  sel : NoSel ops
  back : ∀ (i : Nat) o, ops[i]? = some o → ∀ e ∈ o.after, Region.binds .any e = true → e.on < i
  swap : ∀ (i : Nat) o, ops[i]? = some o → ∀ (y : Nat), y < i → ∀ x, ops[y]? = some x → Before ops y i ∨ swapB q ops x o = true

def todoOf (n : Nat) (listed : Array Bool) : List Nat := (List.range n).filter fun j => !listed.getD j true

theorem mem_todo {n : Nat} {listed : Array Bool} {j : Nat} : j ∈ todoOf n listed ↔ j < n ∧ listed.getD j true = false := by simp [todoOf]

theorem wpAny_of_mix {Q : Exit → Act → World → Prop} (hm : Mixed q ops) : ∀ (fuel : Nat) (listed : Array Bool) (a : Act) (w : World), listed.size = ops.size → Closed ops listed → (todoOf ops.size listed).length ≤ fuel →
    mixIxs q P ops (fun a w => Q .normal a w) (todoOf ops.size listed) a w → wpAny P .any ops Q fuel listed a w := by
  have first : ∀ (listed : Array Bool), listed.size = ops.size → Region.ready .any ops listed = [] → todoOf ops.size listed = [] := by
    intro listed hsz hr
    by_cases ht : todoOf ops.size listed = []
    · exact ht
    · exfalso
      obtain ⟨i, r, hir⟩ := List.exists_cons_of_ne_nil ht
      have hi : i ∈ todoOf ops.size listed := by rw [hir]; exact List.mem_cons_self
      obtain ⟨hin, hil⟩ := mem_todo.1 hi
      have hsorted : (todoOf ops.size listed).Pairwise (· < ·) := List.Pairwise.filter _ List.pairwise_lt_range
      have : i ∈ Region.ready .any ops listed := by
        refine mem_ready.2 ⟨hil, ops[i], by simp [hin], fun e he hb => ?_⟩
        have hlt := hm.back i _ (by simp [hin]) e he hb
        cases hl : listed.getD e.on false with
        | true => rfl
        | false =>
          exfalso
          have hmem : e.on ∈ todoOf ops.size listed := mem_todo.2 ⟨by omega, getD_in (by omega) hl⟩
          rw [hir] at hmem hsorted
          rcases List.mem_cons.1 hmem with h | h
          · omega
          · have := (List.pairwise_cons.1 hsorted).1 _ h; omega
      rw [hr] at this
      simp at this
  intro fuel
  induction fuel with
  | zero =>
    intro listed a w hsz hc hlen h
    have ht : todoOf ops.size listed = [] := List.eq_nil_of_length_eq_zero (by omega)
    rw [ht] at h
    refine ⟨?_, h⟩
    cases hr : Region.ready .any ops listed with
    | nil => rfl
    | cons i r =>
      have hi : i ∈ Region.ready .any ops listed := by rw [hr]; exact List.mem_cons_self
      obtain ⟨hl, o, ho, _⟩ := mem_ready.1 hi
      have : i ∈ todoOf ops.size listed := mem_todo.2 ⟨(Array.getElem?_eq_some_iff.1 ho).1, hl⟩
      rw [ht] at this
      simp at this
  | succ fuel ih =>
    intro listed a w hsz hc hlen h
    refine ⟨fun hr => by rw [first listed hsz hr] at h; exact h, fun i hi => ?_⟩
    obtain ⟨hl, o, ho, hall⟩ := mem_ready.1 hi
    have hin : i < ops.size := (Array.getElem?_eq_some_iff.1 ho).1
    have hmem : i ∈ todoOf ops.size listed := mem_todo.2 ⟨hin, hl⟩
    obtain ⟨r1, r2, hr⟩ := List.append_of_mem hmem
    have hsorted : (todoOf ops.size listed).Pairwise (· < ·) := List.Pairwise.filter _ List.pairwise_lt_range
    rw [hr] at hsorted h
    have hlt1 : ∀ y ∈ r1, y < i := fun y hy => (List.pairwise_append.1 hsorted).2.2 y hy i List.mem_cons_self
    have hlt2 : ∀ y ∈ r2, i < y := fun y hy => (List.pairwise_cons.1 (List.pairwise_append.1 hsorted).2.1).1 y hy
    have hfront := mixIxs_front (P := P) (Q := fun a w => Q .normal a w) hm.sel ho r2 r1 (fun y hy x hx => by
      rcases hm.swap i o ho y (hlt1 y hy) x hx with hb | hb
      · exfalso
        have h1 := hb.ready hc hi
        have h2 : y ∈ todoOf ops.size listed := by rw [hr]; exact List.mem_append_left _ hy
        have h3 := getD_both (mem_todo.1 h2).2
        rw [h1] at h3
        cases h3
      · exact hb) a w h
    have htodo : todoOf ops.size (listed.setIfInBounds i true) = r1 ++ r2 := by
      have e : todoOf ops.size (listed.setIfInBounds i true) = (todoOf ops.size listed).filter (fun j => decide (j ≠ i)) := by
        unfold todoOf
        rw [List.filter_filter]
        apply List.filter_congr
        intro j hj
        by_cases hji : j = i
        · subst hji
          have hjs : j < listed.size := by omega
          simp [hjs]
        · rw [getD_set_ne true (fun e => hji e.symm)]
          simp [hji]
      rw [e, hr, List.filter_append, List.filter_cons]
      simp only [ne_eq, not_true_eq_false, decide_false, Bool.false_eq_true, if_false]
      rw [List.filter_eq_self.2 (fun y hy => by have := hlt1 y hy; simp; omega), List.filter_eq_self.2 (fun y hy => by have := hlt2 y hy; simp; omega)]
    have hnext : Closed ops (listed.setIfInBounds i true) := by
      intro j oj hj hlj e he hb
      by_cases hji : j = i
      · subst hji
        rw [ho] at hj
        cases hj
        exact getD_set_true (hall e he hb)
      · rw [getD_set_ne false (fun e => hji e.symm)] at hlj
        exact getD_set_true (hc j oj hj hlj e he hb)
    have hlen' : (todoOf ops.size (listed.setIfInBounds i true)).length ≤ fuel := by
      rw [htodo]
      rw [hr] at hlen
      simp at hlen ⊢
      omega
    have ih' := fun a w => ih (listed.setIfInBounds i true) a w (by simpa using hsz) hnext hlen'
    rw [htodo] at ih'
    simp only [mixIxs, ho] at hfront
    -- from the rule of one operation to the base's
    unfold wpOp
    simp only [ho]
    unfold mixOp at hfront
    split
    · rename_i hw
      rw [if_pos hw] at hfront
      refine .inl ?_
      split at hfront
      · exact upon_mono ih' hfront
      · obtain ⟨v, hv, hk⟩ := hfront
        unfold Oper.wp
        rcases hv with hv | ⟨f, args, hv, hf⟩
        · rw [hv]
          exact ih' _ _ hk
        · rw [hv]
          refine hf.mono fun e w'' he => ?_
          obtain ⟨rfl, rfl⟩ := he
          exact ih' _ _ hk
    · rename_i hw
      rw [if_neg hw] at hfront
      exact ih' _ _ hfront

/-- The operations that come before one, as bits. -/
def maskOf (ms : List Nat) (o : Oper) : Nat := o.after.toList.foldl (fun m e => if Region.binds .any e then m ||| (1 <<< e.on) ||| ms.getD e.on 0 else m) 0
def mixGo (q : List Nat) (ops : Array Oper) : List Oper → Nat → List Nat → Bool
  | [], _, _ => true
  | o :: rest, k, ms =>
    (o.after.toList.all fun e => !Region.binds .any e || decide (e.on < k)) &&
    ((List.range k).all fun y => (maskOf ms o).testBit y || (match ops[y]? with | some x => swapB q ops x o | none => true)) &&
    mixGo q ops rest (k + 1) (ms ++ [maskOf ms o])
def mixB (q : List Nat) (ops : Array Oper) : Bool := Region.noSelect ops && mixGo q ops ops.toList 0 []

theorem maskOf_spec {ms : List Nat} {o : Oper} {k : Nat} (ho : ops[k]? = some o) (hms : ∀ i, ∀ y, (ms.getD i 0).testBit y = true → Before ops y i) {y : Nat} (h : (maskOf ms o).testBit y = true) : Before ops y k := by
  have gen : ∀ (l : List Edge), (∀ e ∈ l, e ∈ o.after) → ∀ m, (∀ y, m.testBit y = true → Before ops y k) →
      ∀ y, (l.foldl (fun m e => if Region.binds .any e then m ||| (1 <<< e.on) ||| ms.getD e.on 0 else m) m).testBit y = true → Before ops y k := by
    intro l
    induction l with
    | nil => intro _ m hm y hy; exact hm y hy
    | cons e l ih =>
      intro hl m hm y hy
      refine ih (fun e he => hl e (List.mem_cons_of_mem _ he)) _ ?_ y hy
      intro y hy
      dsimp only at hy
      split at hy
      · rename_i hb
        simp only [Nat.testBit_or, Bool.or_eq_true] at hy
        rcases hy with (hy | hy) | hy
        · exact hm y hy
        · rw [Nat.testBit_shiftLeft] at hy
          simp only [Bool.and_eq_true, decide_eq_true_eq] at hy
          have h1 : y - e.on = 0 := by
            have := hy.2
            rw [Nat.testBit_one_eq_true_iff_self_eq_zero] at this
            exact this
          have : y = e.on := by omega
          subst this
          exact .edge ho (hl e List.mem_cons_self) hb
        · exact .trans ho (hl e List.mem_cons_self) hb (hms _ _ hy)
      · exact hm y hy
  exact gen o.after.toList (fun e he => by simpa using he) 0 (by simp) y h

theorem mixGo_spec : ∀ (l : List Oper) (k : Nat) (ms : List Nat), (∀ j, l[j]? = ops[k + j]?) → (∀ i, ∀ y, (ms.getD i 0).testBit y = true → Before ops y i) → ms.length = k → mixGo q ops l k ms = true →
    ∀ (i : Nat) o, k ≤ i → ops[i]? = some o → (∀ e ∈ o.after, Region.binds .any e = true → e.on < i) ∧ ∀ (y : Nat), y < i → ∀ x, ops[y]? = some x → Before ops y i ∨ swapB q ops x o = true
  | [], k, ms, hl, _, _, _, i, o, hki, ho => by
    have := hl (i - k)
    rw [show k + (i - k) = i by omega, ho] at this
    simp at this
  | o' :: rest, k, ms, hl, hms, hlen, h, i, o, hki, ho => by
    have h0 : ops[k]? = some o' := by simpa using (hl 0).symm
    simp only [mixGo, Bool.and_eq_true, List.all_eq_true, List.mem_range, Bool.or_eq_true, Bool.not_eq_true', decide_eq_true_eq] at h
    obtain ⟨⟨h1, h2⟩, h3⟩ := h
    by_cases hik : i = k
    · subst hik
      rw [h0] at ho
      cases ho
      refine ⟨fun e he hb => ?_, fun y hy x hx => ?_⟩
      · rcases h1 e (by simpa using he) with h | h
        · rw [hb] at h; cases h
        · exact h
      · have := h2 y hy
        rw [hx] at this
        exact this.imp (maskOf_spec h0 hms) id
    · refine mixGo_spec rest (k + 1) _ (fun j => by have := hl (j + 1); simpa [Nat.add_assoc, Nat.add_comm 1 j] using this) ?_ (by simp [hlen]) h3 i o (by omega) ho
      intro i y hy
      by_cases hi : i < k
      · exact hms i y (by simpa [List.getD, List.getElem?_append, hlen, hi] using hy)
      · by_cases hi' : i = k
        · subst hi'
          refine maskOf_spec h0 hms ?_
          simpa [List.getD, List.getElem?_append, hlen] using hy
        · simp [List.getD, List.getElem?_append, hlen, hi, show ¬ i - k = 0 by omega] at hy

theorem mixed_of (h : mixB q ops = true) : Mixed q ops := by
  simp only [mixB, Bool.and_eq_true] at h
  have key := mixGo_spec (ops := ops) ops.toList 0 [] (by simp) (by simp) rfl h.2
  exact ⟨fun j o cs b => Region.noSelect_spec h.1 j o cs b, fun i o ho => (key i o (Nat.zero_le _) ho).1, fun i o ho => (key i o (Nat.zero_le _) ho).2⟩

/-- THE RULE. -/
theorem wp_region_mix {id : Nat} {Q : Exit → Act → World → Prop} {a : Act} {w : World} {l : List Oper} (hm : P.follows .mixedOrders = true) (hB : mixB q l.toArray = true)
    (h : wpMix q P l.toArray (fun a w => Q .normal a w) l a w.drew) : (Code.region id l.toArray true).wp P Q a w := by
  refine wp_region_any hm ?_
  refine wpAny_of_mix (mixed_of hB) _ _ a _ (by simp) (fun j o ho hl => ?_) ?_ ?_
  · rw [getD_replicate_false] at hl; cases hl
  · exact Nat.le_trans (List.length_filter_le _ _) (by simp)
  · have e : todoOf l.toArray.size (Array.replicate l.toArray.size false) = List.range' 0 l.length := by
      rw [← List.range_eq_range', todoOf, List.filter_eq_self.2]
      · simp
      · intro j hj
        have hj' : j < l.length := by simpa using hj
        simp [hj']
    rw [e, mixIxs_eq l 0 (by simp)]
    exact h


/-- A call of a function on the list. -/
theorem wpMix_call {Q : Act → World → Prop} {a : Act} {w : World} {o : Oper} {rest : List Oper} (hg : o.guard = none) (f : FuncId) (xs : Array Operand) (ts : Array TypeId) (ho : o.op = .call { callee := .value (.func f), args := xs, argTypes := ts })
    (hq : q.contains f = true) (args : Array Value) (ha : xs.map a.eval = args) (hcf : (callFunc f args).run P w = .ok (.enter f args) w) (v : Value) (hc : Calls P f args w fun e w' => e = .returned v ∧ w' = w)
    (h : wpMix q P ops Q rest (a.put o.dst v) w) : wpMix q P ops Q (o :: rest) a w := by
  refine wpMix_read v hg (by simp only [actsB, ho, hq]; rfl) (.inr ⟨f, args, ?_, hc⟩) h
  subst ha
  unfold execOp
  simp only [ho, resolve, Deferred.ofValue, Act.eval, Sem.run_bind, Sem.run_pure, Result.andThen_ok, invoke, Array.append_empty, Array.empty_append]
  exact hcf

/-- A reading operation, in the form that the walk's own step takes. -/
theorem wpMix_rd {Q : Act → World → Prop} {a : Act} {w : World} {o : Oper} {rest : List Oper} (hg : o.guard = none) (ha : Go.Proofs.Ythlmfjoiicnomaa.actsB o = false) (ha' : actsB q o = false)
    (h : ∀ K : Act → Prop, (∀ a, wpMix q P ops Q rest a w → K a) → o.still P a w K) : wpMix q P ops Q (o :: rest) a w :=
  wpMix_still hg ha' h fun _ _ hr => reads_value ha hr
end
end Go.Proofs.Ythlmfjoiicnomaa.MQ
namespace Go.Proofs.Ythlmfjoiicnomaa
open Go.RowKit
set_option linter.unusedVariables false
set_option linter.unusedSimpArgs false

/-- An instruction. -/
structure Ins where
  op : Int
  loc : Int
  reg : Int
  val : Int
deriving DecidableEq
def Ins.cells (x : Ins) : List Value := [.int .i64 x.op, .int .i64 x.loc, .int .i64 x.reg, .int .i64 x.val]
abbrev Ins.v (x : Ins) : Value := .agg #[.int .i64 x.op, .int .i64 x.loc, .int .i64 x.reg, .int .i64 x.val]
end Go.Proofs.Ythlmfjoiicnomaa
