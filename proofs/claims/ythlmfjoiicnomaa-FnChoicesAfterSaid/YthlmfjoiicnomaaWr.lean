/-
  PROVED HERE: what slices.Clone over writes and (*views).after do. plain facts on a step of a state with views, as the program does it. CONDITIONS: as each theorem states.
-/
import Derived.Test.YthlmfjoiicnomaaWp
namespace Go.Proofs.Ythlmfjoiicnomaa
open Go.RowKit
set_option linter.unusedVariables false
set_option linter.unusedSimpArgs false

theorem eqnilM_some (a : Addr) (n cap : Nat) (w : World) : (binOp .eql 107 (.slice (some a) n cap) (.slice none 0 0)).run Try.prog w = .ok (.bool false) w := by kernel_rfl
set_option maxRecDepth 100000 in
theorem cloneM_c (w : World) (a : Addr) (n cap : Nat) (cs : List Value) (h : Rd w (some a) cs) (hl : cs.length = n * 5) (h1 : ∀ u ∈ cs, u.oneCell' = true) (hn : n ≤ 1000) :
    Calls Try.prog 135 #[.slice (some a) n cap] w fun e w' => ∃ a' c', e = .returned (.slice a' n c') ∧ w'.ownsRow w.heap.size 114 5 (.slice a' n c') n cs ∧ Below w.heap.size w w' := by
  have HR := hid (h.alloc (.cells #[] 114))
  have HB := hid ((Below.refl w.heap.size w).alloc (Nat.le_refl _) (.cells #[] 114))
  have HO := hid (own_lit0 w w.heap.size 114 5 (Nat.le_refl _))
  have HL := hid hl
  have H1 := hid h1
  clear h hl h1
  have hE := eqnilM_some a n cap w
  go_enter Try.func135, Try.ntmps135
  go_wp2_with (at_builtin; refine wpList_append_rd rfl (.tmp 5) (.tmp 6) 107 rfl w.heap.size 114 (.agg #[.int .u8 0, .bool false, .int .u8 0, .int .u8 0, .int .u8 0]) 5 5 Try.underlying107 Try.info_write rfl (by decide) _ _ _ rfl HO.out (some a) n cap cs rfl HR.out (by rw [HL.out]) H1.out (by omega) (by decide) (by simp) ?_)
  intro v5 w5 hown5 hgrow5 hat5
  obtain ⟨a5, c5, rfl, _⟩ := own_shape hown5
  have HO5 := hid (show w5.ownsRow w.heap.size 114 5 (.slice a5 n c5) n cs from by simpa using hown5)
  have HB5 := hid (HB.out.grown hgrow5 (by simp) (fun b hb => (HO.out.lt b hb).1))
  clear hown5 hgrow5 hat5
  go_wp2
  go_ret
  exact ⟨_, _, rfl, HO5.out, HB5.out⟩
theorem run_indexL_0 (w : World) (a0 a1 a2 : Option Addr) (n0 n1 n2 c0 c1 c2 : Nat) : (Instr.index 108 (.agg #[.slice a0 n0 c0, .slice a1 n1 c1, .slice a2 n2 c2]) (.int .i64 0)).run Try.prog w = .ok (.slice a0 n0 c0) w := by kernel_rfl
theorem run_indexL_1 (w : World) (a0 a1 a2 : Option Addr) (n0 n1 n2 c0 c1 c2 : Nat) : (Instr.index 108 (.agg #[.slice a0 n0 c0, .slice a1 n1 c1, .slice a2 n2 c2]) (.int .i64 1)).run Try.prog w = .ok (.slice a1 n1 c1) w := by kernel_rfl
theorem run_indexL_2 (w : World) (a0 a1 a2 : Option Addr) (n0 n1 n2 c0 c1 c2 : Nat) : (Instr.index 108 (.agg #[.slice a0 n0 c0, .slice a1 n1 c1, .slice a2 n2 c2]) (.int .i64 2)).run Try.prog w = .ok (.slice a2 n2 c2) w := by kernel_rfl
theorem run_indexL (w : World) (L : Nat → Option Addr × Nat) (N : Nat → Nat) (k : Nat) (h : k < 3) : (Instr.index 108 (.agg #[.slice (L 0).1 (N 0) (L 0).2, .slice (L 1).1 (N 1) (L 1).2, .slice (L 2).1 (N 2) (L 2).2]) (.int .i64 (k : Int))).run Try.prog w = .ok (.slice (L k).1 (N k) (L k).2) w := by
  match k, h with
  | 0, _ => exact run_indexL_0 w _ _ _ _ _ _ _ _ _
  | 1, _ => exact run_indexL_1 w _ _ _ _ _ _ _ _ _
  | 2, _ => exact run_indexL_2 w _ _ _ _ _ _ _ _ _
abbrev z28 : Array Value := #[.slice none 0 0, .int .u8 0, .int .u8 0, .int .u8 0, .int .u8 0, .int .u8 0, .int .u8 0, .int .u8 0, .int .u8 0, .int .u8 0, .int .u8 0, .int .u8 0, .int .u8 0, .int .u8 0, .int .u8 0, .int .u8 0, .slice none 0 0, .slice none 0 0, .slice none 0 0, .int .u8 0, .int .u8 0, .int .u8 0, .int .u8 0, .int .u8 0, .int .u8 0, .int .u8 0, .int .u8 0, .int .u8 0]
theorem vwC_one {hd : List Value} {L : Nat → Option Addr × Nat} {N : Nat → Nat} {U : List (List Int)} (hh : ∀ v ∈ hd, v.oneCell' = true) : ∀ v ∈ vwC hd L N U, v.oneCell' = true := by
  intro v hv
  unfold vwC at hv
  rcases List.mem_append.1 hv with e | e
  · exact hh v e
  · rcases List.mem_append.1 e with e | e
    · simp only [List.mem_cons, List.not_mem_nil, or_false] at e
      rcases e with rfl | rfl | rfl <;> rfl
    · obtain ⟨x, _, rfl⟩ := List.mem_map.1 e
      rfl
theorem valC_one (a : Option Addr) (n cap : Nat) (s : St) : ∀ v ∈ valC a n cap s, v.oneCell' = true := by
  intro v hv
  unfold valC at hv
  rcases List.mem_cons.1 hv with rfl | hv
  · rfl
  rcases List.mem_append.1 hv with e | e
  · obtain ⟨x, _, rfl⟩ := List.mem_map.1 e; rfl
  rcases List.mem_append.1 e with e | e
  · obtain ⟨x, _, rfl⟩ := List.mem_map.1 e; rfl
  · obtain ⟨x, _, rfl⟩ := List.mem_map.1 e; rfl
/-- The copy at block B, k of whose rows have been copied. -/
structure CloI (w wk : World) (B : Nat) (hd : List Value) (Lz : Nat → Option Addr × Nat) (R : Nat → List Ms) (U : List (List Int)) (k : Nat) : Prop where
  at_ : ∃ L, wk.heap[B]? = some (.cells (vwC hd L (fun l => (R l).length) U).toArray 112 (0, 0)) ∧ (∀ l, l < k → wk.ownsRow w.heap.size 114 5 (.slice (L l).1 (R l).length (L l).2) (R l).length (wcells (R l))) ∧ (∀ l l' b, l < k → l' < k → blk (L l).1 = some b → blk (L l').1 = some b → l = l') ∧ (∀ l b, l < k → blk (L l).1 = some b → B < b)
  below : Below w.heap.size w wk
theorem CloI.start {w : World} {B : Nat} {hd : List Value} {Lz : Nat → Option Addr × Nat} {R : Nat → List Ms} {U : List (List Int)} {wk : World} (h : wk.heap[B]? = some (.cells (vwC hd Lz (fun l => (R l).length) U).toArray 112 (0, 0))) (hb : Below w.heap.size w wk) : CloI w wk B hd Lz R U 0 :=
  ⟨⟨Lz, h, fun l hl => by omega, fun l l' b hl => by omega, fun l b hl => by omega⟩, hb⟩
theorem CloI.step {w : World} {B : Nat} {hd : List Value} {Lz : Nat → Option Addr × Nat} {R : Nat → List Ms} {U : List (List Int)} {wk wk' : World} {k : Nat} (h : CloI w wk B hd Lz R U k) (hh : hd.length = 16) (hk : k < 3) (hB : w.heap.size ≤ B) {a : Option Addr} {c : Nat} (hb : Below wk.heap.size wk wk') (ho : wk'.ownsRow wk.heap.size 114 5 (.slice a (R k).length c) (R k).length (wcells (R k))) :
    CloI w (wk'.setCell ⟨B, 16 + k, none⟩ (.slice a (R k).length c)) B hd Lz R U (k + 1) := by
  obtain ⟨⟨L, hcur, hrow, hdis, hgt⟩, hbel⟩ := h
  have hBlt : B < wk.heap.size := (Array.getElem?_eq_some_iff.1 hcur).1
  have hcur' : wk'.heap[B]? = _ := (hb.block B hBlt).trans hcur
  have kk := Keeps.setCell wk' ⟨B, 16 + k, none⟩ (.slice a (R k).length c)
  have hab := fun b (e : blk a = some b) => own_blk ho b e
  refine ⟨⟨setL5 L k (a, c), ?_, fun l hl => ?_, fun l l' b hl hl' e1 e2 => ?_, fun l b hl e => ?_⟩, (hbel.trans (hb.mono hbel.size)).setCell hB _⟩
  · rw [heap_setL hcur', vwC_setl hh hk]
    congr 4
    funext l'
    unfold setN5
    split
    · rename_i e; rw [e]
    · rfl
  · unfold setL5
    by_cases e : l = k
    · subst e
      rw [if_pos rfl]
      have hsz := hbel.size
      have h0 := own_keeps ho kk fun b hb' e => by have := (hab b hb').1; have e : b = B := e; omega
      exact ⟨h0.1, h0.2.imp id fun ⟨g, cp, cur, q1, q2, q3⟩ => ⟨g, cp, cur, q1, Nat.le_trans hsz q2, q3⟩⟩
    · rw [if_neg e]
      exact own_keeps (own_below (hrow l (by omega)) hb) kk fun b hb' e' => by have := hgt l b (by omega) hb'; have e' : b = B := e'; omega
  · unfold setL5 at e1 e2
    by_cases e : l = k <;> by_cases e' : l' = k
    · omega
    · rw [if_pos e] at e1
      rw [if_neg e'] at e2
      have := (hab b e1).1; have := (own_blk (hrow l' (by omega)) b e2).2; omega
    · rw [if_neg e] at e1
      rw [if_pos e'] at e2
      have := (hab b e2).1; have := (own_blk (hrow l (by omega)) b e1).2; omega
    · rw [if_neg e] at e1
      rw [if_neg e'] at e2
      exact hdis l l' b (by omega) (by omega) e1 e2
  · unfold setL5 at e
    by_cases e' : l = k
    · rw [if_pos e'] at e
      have := (hab b e).1; omega
    · rw [if_neg e'] at e
      exact hgt l b (by omega) e
theorem CloI.mid {w : World} {B : Nat} {hd : List Value} {Lz : Nat → Option Addr × Nat} {R : Nat → List Ms} {U : List (List Int)} {wk : World} (h : CloI w wk B hd Lz R U 3) (hh : hd.length = 16) (hu : U3 U) (hB : w.heap.size ≤ B) (hv : ∀ l, l < 3 → V3 (R l)) : ∃ L, MidW (fun _ => False) w wk w.heap.size B hd L R U := by
  obtain ⟨⟨L, hcur, hrow, hdis, hgt⟩, hbel⟩ := h
  exact ⟨L, hcur, hh, hu, hB, hrow, hv, hdis, Keeps.of_below hbel, .inr hB, fun l b hl hb => .inr (by have := hgt l b hl hb; omega), hbel.size⟩
/-- The state at the end of a step. -/
theorem MidW.fin {w wk : World} {B : Nat} {a : Option Addr} {cap : Nat} {L : Nat → Option Addr × Nat} {R : Nat → List Ms} {U : List (List Int)} {p : Prg} {s : Vs} (h : MidW (fun _ => False) w wk w.heap.size B (valC a p.length cap s.st) L R U) (hrp : RdP w a p) (hR : ∀ l, l < 3 → R l = row5 s l) (hU : U = padV s.view) (hg : Good5 p s) : VwAt wk B p s ∧ Below w.heap.size w wk := by
  have hb : Below w.heap.size w wk := ⟨h.kp.os, h.kp.tape, h.kp.output, h.kp.size, fun k hk => h.kp.block k hk (fun e => e)⟩
  refine ⟨⟨⟨a, cap, L, ?_, hrp.below hb, fun l hl => ?_⟩, hg⟩, hb⟩
  · rw [h.cur, hU]
    unfold vwC
    dsimp only
    rw [hR 0 (by decide), hR 1 (by decide), hR 2 (by decide)]
  · have := h.row l hl
    rw [hR l hl] at this
    exact ⟨Rd.own this, own_cap this⟩
end Go.Proofs.Ythlmfjoiicnomaa
namespace Go.Proofs.Ythlmfjoiicnomaa
open Go.RowKit
set_option linter.unusedVariables false
set_option linter.unusedSimpArgs false

theorem padV_getD {p : Prg} {s : Vs} (hl : s.view.length = p.length) {t : Nat} (ht : t < p.length) : (padV s.view).getD t [] = vw s t := by
  obtain ⟨v, hv⟩ : ∃ v, s.view[t]? = some v := ⟨_, List.getElem?_eq_getElem (by omega)⟩
  rw [List.getD_eq_getElem?_getD, padV_get hv, vw_of hv]
  rfl
theorem row5_mapM {s : Vs} {st : St} {vv : List (List Int)} {loc k : Nat} (l : Nat) : row5 ⟨st, vv, s.list.map (List.map (bumpM loc k))⟩ l = (row5 s l).map (bumpM loc k) := by
  unfold row5
  rw [List.getD_eq_getElem?_getD, List.getD_eq_getElem?_getD]
  dsimp only
  rw [List.getElem?_map]
  cases s.list[l]? <;> rfl
theorem row5_insR {p : Prg} {s : Vs} (hll : s.list.length = 3) (hvl : s.view.length = p.length) {t loc k : Nat} {val : Int} (ht : t < p.length) (hl : loc < 3) (l : Nat) : row5 (ins5 s t loc k val) l = insR (row5 s) (padV s.view) t loc k val l := by
  unfold ins5 insR
  have := row5_set (s := ⟨s.st, s.view, s.list.map (List.map (bumpM loc k))⟩) (l := loc) (c := l) (r := ((row5 s loc).map (bumpM loc k)).take k ++ [⟨val, false, (bump loc k (vw s t)).set loc (k : Int)⟩] ++ ((row5 s loc).map (bumpM loc k)).drop k) (st := s.st) (vv := (s.view.map (bump loc k)).set t ((bump loc k (vw s t)).set loc (k : Int))) (by rw [List.length_map, hll]; exact hl)
  rw [this, padV_getD hvl ht, row5_mapM]
  by_cases e : loc = l
  · rw [if_pos e, if_pos e.symm]
  · rw [if_neg e, if_neg (fun e' => e e'.symm)]
theorem view_insU {p : Prg} {s : Vs} (hvl : s.view.length = p.length) {t loc k : Nat} {val : Int} (ht : t < p.length) (hk : 1 ≤ k) : insU (padV s.view) t loc k = padV (ins5 s t loc k val).view := by
  unfold insU ins5
  rw [padV_getD hvl ht, padV_bump hk, padV_set _ (by rw [List.length_map, hvl]; exact ht)]
theorem row5_lock {s : Vs} (hll : s.list.length = 3) {loc k : Nat} (hl : loc < 3) (l : Nat) : row5 (lock5 s loc k) l = if loc = l then (row5 s loc).set k { (row5 s loc).getD k msZ with lock := true } else row5 s l := by
  unfold lock5
  exact row5_set (s := s) (st := s.st) (vv := s.view) (by rw [hll]; exact hl)
theorem insR_lock {R : Nat → List Ms} {U : List (List Int)} {t loc k : Nat} {val : Int} {r : List Ms} (hr : R loc = r) {m : Ms} (hm : r[k]? = some m) (l : Nat) :
    insR (fun l => if loc = l then r.set k { m with lock := true } else R l) U t loc (k + 1) val l = updR (insR R U t loc (k + 1) val) loc ((insR R U t loc (k + 1) val loc).set k { bumpM loc (k + 1) m with lock := true }) l := by
  have hk := (List.getElem?_eq_some_iff.1 hm).1
  by_cases e : l = loc
  · subst e
    rw [updR_same]
    unfold insR
    rw [if_pos rfl, if_pos rfl]
    dsimp only
    rw [if_pos rfl, hr]
    have e1 : (r.set k { m with lock := true }).map (bumpM l (k + 1)) = (r.map (bumpM l (k + 1))).set k { bumpM l (k + 1) m with lock := true } := by
      rw [List.map_set]; rfl
    rw [e1, List.append_assoc, List.append_assoc, List.set_append_left _ _ (by simp; omega), ← List.take_set, List.drop_set_of_lt (by omega)]
  · rw [updR_ne _ _ e]
    unfold insR
    rw [if_neg e, if_neg e]
    dsimp only
    rw [if_neg (fun e' => e e'.symm)]
theorem insR_at {R : Nat → List Ms} {U : List (List Int)} {t loc k : Nat} {val : Int} {m : Ms} (hm : (R loc)[k]? = some m) : (insR R U t loc (k + 1) val loc)[k]? = some (bumpM loc (k + 1) m) := by
  have hk := (List.getElem?_eq_some_iff.1 hm).1
  unfold insR
  rw [if_pos rfl, List.append_assoc, List.getElem?_append_left (by simp; omega), List.getElem?_take_of_lt (by omega), List.getElem?_map, hm]
  rfl
theorem insR_len {R : Nat → List Ms} {U : List (List Int)} {t loc k : Nat} {val : Int} (l : Nat) : (insR R U t loc k val l).length = (R l).length + if l = loc then 1 else 0 := by
  unfold insR
  by_cases e : l = loc
  · subst e
    rw [if_pos rfl, if_pos rfl]
    simp only [List.length_append, List.length_take, List.length_drop, List.length_map, List.length_singleton]
    omega
  · rw [if_neg e, if_neg e, List.length_map]; rfl
theorem MidW.neOth {S : Nat → Prop} {w0 w : World} {base B : Nat} {hd : List Value} {L : Nat → Option Addr × Nat} {R : Nat → List Ms} {U : List (List Int)} (h : MidW S w0 w base B hd L R U) {b : Nat} {cs : Array Value} {T : TypeId} {fr : Nat × Nat} (hb : w.heap[b]? = some (.cells cs T fr)) (h1 : T ≠ 114) (h2 : T ≠ 112) : ¬ MidS B L b := by
  rintro (rfl | ⟨l, hl, e⟩)
  · rw [h.cur] at hb
    simp only [Option.some.injEq, Obj.cells.injEq] at hb
    exact h2 hb.2.1.symm
  · rcases (h.row l hl).2 with ⟨hv, _⟩ | ⟨g, c, cur, hv, _, hg, _⟩
    · simp only [Value.slice.injEq] at hv
      rw [hv.1] at e
      cases e
    · simp only [Value.slice.injEq] at hv
      rw [hv.1] at e
      have : g = b := by simpa [blk] using e
      subst this
      rw [hg] at hb
      simp only [Option.some.injEq, Obj.cells.injEq] at hb
      exact h1 hb.2.1.symm
theorem join_bd {x y : List Int} {b : Int} (hx : ∀ v ∈ x, 0 ≤ v ∧ v ≤ b) (hy : ∀ v ∈ y, 0 ≤ v ∧ v ≤ b) : ∀ v ∈ join5 x y, 0 ≤ v ∧ v ≤ b := by
  intro v hv
  unfold join5 at hv
  obtain ⟨i, hi⟩ := List.mem_iff_getElem?.1 hv
  rw [List.getElem?_zipWith] at hi
  split at hi
  · rename_i a c h1 h2
    have e := Option.some.inj hi
    have := hx a (List.mem_of_getElem? h1)
    have := hy c (List.mem_of_getElem? h2)
    omega
  · cases hi
theorem Good5.pad_bd {p : Prg} {s : Vs} (h : Good5 p s) (hv : Shape p) : ∀ v ∈ padV s.view, ∀ x ∈ v, 0 ≤ x ∧ x ≤ 100 := fun v hm x hx => by
  unfold padV at hm
  rcases List.mem_append.1 hm with e | e
  · have := (h.vok v e).bd h hv x hx; omega
  · rw [(List.mem_replicate.1 e).2] at hx
    simp at hx
    omega
theorem Good5.row_bd {p : Prg} {s : Vs} (h : Good5 p s) (hv : Shape p) : ∀ l, l < 3 → (row5 s l).length ≤ 90 ∧ ∀ m ∈ row5 s l, ∀ x ∈ m.view, 0 ≤ x ∧ x ≤ 100 := fun l hl => ⟨by have := h.rowlen hv hl; omega, fun m hm x hx => by
  have := (h.mok _ (List.mem_of_getElem? (h.row hl)) m hm).2.bd h hv x hx; omega⟩
end Go.Proofs.Ythlmfjoiicnomaa
