/-
  PROVED HERE: plain facts on states of machines with store buffers. CONDITIONS: as each lemma states.
-/
import Derived.Test.YtbncmeggnhggkaaRet
namespace Go.Proofs.Ytbncmeggnhggkaa
open Go.RowKit
set_option linter.unusedVariables false
set_option linter.unusedSimpArgs false

/-- How many buffers a thread has; the buffer for a location. -/
def nb (split : Bool) : Nat := if split then 3 else 1
def place (t loc : Nat) (split : Bool) : Nat := if split then t * 3 + loc else t
def row4 (s : St) (b : Nat) : List (Int × Int) := s.buf.getD b []
def empty4 (s : St) (t : Nat) (split : Bool) : Bool := (List.range (nb split)).all fun i => (row4 s (t * nb split + i)).isEmpty
/-- The value of a location in a buffer, if it is there. -/
def inBuf (r : List (Int × Int)) (loc : Int) : Option Int := (r.reverse.find? fun e => e.1 == loc).map (·.2)
def seen4 (s : St) (t loc : Nat) (split : Bool) : Int := (inBuf (row4 s (place t loc split)) loc).getD (s.mem.getD loc 0)
def waits4 (x : Ins) : Bool := (x.op == 4) || (x.op == 5)
def ready4 (p : Prg) (s : St) (split : Bool) (t : Nat) : Bool := goes p s t && (!waits4 (nxt p s t) || empty4 s t split)
def can4 (p : Prg) (s : St) (split : Bool) (m : Nat) : Bool := if m < p.length then ready4 p s split m else !(row4 s (m - p.length)).isEmpty
def moves4 (p : Prg) (s : St) (split : Bool) : List Int := ((List.range (p.length + s.buf.length)).filter (can4 p s split)).map fun (m : Nat) => (m : Int)
/-- A write leaves a buffer. -/
def flush4 (p : Prg) (s : St) (b : Nat) : St :=
  { s with mem := s.mem.set (((row4 s b).headD (0, 0)).1.toNat) ((row4 s b).headD (0, 0)).2, buf := s.buf.set b (row4 s b).tail }
def do4 (p : Prg) (s : St) (split : Bool) (m : Nat) : St :=
  if m < p.length then
    if waits4 (nxt p s m) then do3 p s m
    else if (nxt p s m).op = 1 then { s with pc := s.pc.set m (s.pc.getD m 0 + 1), regs := s.regs.set (m * 3 + (nxt p s m).reg.toNat) (seen4 s m (nxt p s m).loc.toNat split) }
    else { s with pc := s.pc.set m (s.pc.getD m 0 + 1), buf := s.buf.set (place m (nxt p s m).loc.toNat split) (row4 s (place m (nxt p s m).loc.toNat split) ++ [((nxt p s m).loc, wval s m (nxt p s m))]) }
  else flush4 p s (m - p.length)
def done4 (p : Prg) (s : St) : Bool := s.buf.all (·.isEmpty) && done3 p s
def start4 (p : Prg) (split : Bool) : St := start3 p (p.length * nb split)
theorem mem_moves4 {p : Prg} {s : St} {split : Bool} (m : Int) : m ∈ moves4 p s split ↔ ∃ k : Nat, m = k ∧ k < p.length + s.buf.length ∧ can4 p s split k = true := by
  unfold moves4
  simp only [List.mem_map, List.mem_filter, List.mem_range]
  constructor
  · rintro ⟨t, ⟨h1, h2⟩, rfl⟩; exact ⟨t, rfl, h1, h2⟩
  · rintro ⟨t, rfl, h1, h2⟩; exact ⟨t, ⟨h1, h2⟩, rfl⟩
theorem nb_pos (split : Bool) : 1 ≤ nb split := by cases split <;> decide
theorem nb_le (split : Bool) : nb split ≤ 3 := by cases split <;> decide
theorem place_lt {t loc n : Nat} {split : Bool} (ht : t < n) (hl : loc ≤ 2) : place t loc split < n * nb split := by
  cases split <;> simp [place, nb] <;> omega
/-- The place of a location in its thread's buffers. -/
theorem place_eq (t loc : Nat) (split : Bool) (hl : loc ≤ 2) : ∃ i, i < nb split ∧ place t loc split = t * nb split + i := by
  cases split
  · exact ⟨0, by decide, by simp [place, nb]⟩
  · exact ⟨loc, by simp [nb]; omega, by simp [place, nb]⟩

structure Good4 (p : Prg) (split : Bool) (s : St) : Prop extends Good p s where
  bufl : s.buf.length = p.length * nb split
  ent : ∀ (b : Nat) r, s.buf[b]? = some r → ∀ e ∈ r, (0 ≤ e.1 ∧ e.1 ≤ 2) ∧ (0 ≤ e.2 ∧ e.2 ≤ 3)
  cnt : ∀ t i, t < p.length → i < nb split → ((row4 s (t * nb split + i)).length : Int) ≤ s.pc.getD t 0
theorem Good4.rlen {p : Prg} {split : Bool} {s : St} (h : Good4 p split s) (hv : Shape p) {b : Nat} {r : List (Int × Int)} (hr : s.buf[b]? = some r) : r.length ≤ 7 := by
  have hb := (List.getElem?_eq_some_iff.1 hr).1
  rw [h.bufl] at hb
  have hnp := nb_pos split
  have ht : b / nb split < p.length := (Nat.div_lt_iff_lt_mul (by omega)).2 hb
  have hi : b % nb split < nb split := Nat.mod_lt _ (by omega)
  have hc := h.cnt _ _ ht hi
  have e : b / nb split * nb split + b % nb split = b := by rw [Nat.mul_comm]; exact Nat.div_add_mod b (nb split)
  rw [e] at hc
  have er : row4 s b = r := by unfold row4; rw [List.getD_eq_getElem?_getD, hr]; rfl
  rw [er] at hc
  obtain ⟨k, hk, hkl⟩ := h.pcb _ _ (List.getElem?_eq_getElem ht)
  have h7 := hv.row _ _ (List.getElem?_eq_getElem ht)
  rw [List.getD_eq_getElem?_getD, hk] at hc
  simp at hc
  omega
theorem Good4.blen {p : Prg} {split : Bool} {s : St} (h : Good4 p split s) (hv : Shape p) : s.buf.length ≤ 9 := by
  rw [h.bufl]
  have h1 := hv.len
  have h2 := nb_le split
  have : p.length * nb split ≤ 3 * 3 := Nat.mul_le_mul h1 h2
  omega
theorem good_start4 (p : Prg) (split : Bool) : Good4 p split (start4 p split) := by
  refine ⟨good_start p _, by simp [start4, start3], fun b r hr e he => ?_, fun t i ht hi => ?_⟩
  · have := (List.mem_replicate.1 (List.mem_of_getElem? hr)).2
    subst this
    cases he
  · have e1 : row4 (start4 p split) (t * nb split + i) = [] := by
      unfold row4 start4 start3
      rw [List.getD_eq_getElem?_getD]
      dsimp only
      rw [List.getElem?_replicate]
      split <;> rfl
    rw [e1]
    simp only [start4, start3, List.getD_eq_getElem?_getD, List.getElem?_replicate]
    split <;> simp
theorem row4_set {s : St} {b c : Nat} {r : List (Int × Int)} {pc regs mem : List Int} (hb : b < s.buf.length) : row4 ⟨pc, regs, mem, s.buf.set b r⟩ c = if b = c then r else row4 s c := by
  unfold row4
  simp only [List.getD_eq_getElem?_getD, List.getElem?_set]
  split
  · rename_i e
    subst e
    first | rfl | (rw [if_pos hb]; rfl)
  · rfl
theorem row4_of {s : St} {b : Nat} {r : List (Int × Int)} (h : s.buf[b]? = some r) : row4 s b = r := by
  unfold row4
  rw [List.getD_eq_getElem?_getD, h]
  rfl
theorem row4_get {s : St} {b : Nat} (h : b < s.buf.length) : s.buf[b]? = some (row4 s b) := by
  rw [List.getElem?_eq_getElem h]
  unfold row4
  rw [List.getD_eq_getElem?_getD, List.getElem?_eq_getElem h]
  rfl
theorem inBuf_mem {r : List (Int × Int)} {loc v : Int} (h : inBuf r loc = some v) : ∃ e ∈ r, e.1 = loc ∧ e.2 = v := by
  unfold inBuf at h
  obtain ⟨e, he, hv⟩ := Option.map_eq_some_iff.1 h
  exact ⟨e, List.mem_reverse.1 (List.mem_of_find?_eq_some he), by simpa using List.find?_some he, hv⟩
theorem Good4.seen {p : Prg} {split : Bool} {s : St} (h : Good4 p split s) (t loc : Nat) : 0 ≤ seen4 s t loc split ∧ seen4 s t loc split ≤ 3 := by
  unfold seen4
  cases hb : inBuf (row4 s (place t loc split)) loc with
  | none => exact h.memv _
  | some v =>
    obtain ⟨e, he, _, rfl⟩ := inBuf_mem hb
    have hlt : place t loc split < s.buf.length := by
      by_cases hlt : place t loc split < s.buf.length
      · exact hlt
      · exfalso
        have : row4 s (place t loc split) = [] := by
          unfold row4
          rw [List.getD_eq_getElem?_getD, List.getElem?_eq_none (by omega)]
          rfl
        rw [this] at he
        cases he
    exact (h.ent _ _ (row4_get hlt) e he).2
theorem ent_set {bf : List (List (Int × Int))} {b : Nat} {r : List (Int × Int)} (h : ∀ (c : Nat) q, bf[c]? = some q → ∀ e ∈ q, (0 ≤ e.1 ∧ e.1 ≤ 2) ∧ (0 ≤ e.2 ∧ e.2 ≤ 3)) (hr : ∀ e ∈ r, (0 ≤ e.1 ∧ e.1 ≤ 2) ∧ (0 ≤ e.2 ∧ e.2 ≤ 3)) :
    ∀ (c : Nat) q, (bf.set b r)[c]? = some q → ∀ e ∈ q, (0 ≤ e.1 ∧ e.1 ≤ 2) ∧ (0 ≤ e.2 ∧ e.2 ≤ 3) := by
  intro c q hq
  rcases List.mem_or_eq_of_mem_set (List.mem_of_getElem? hq) with hm | rfl
  · obtain ⟨i, hi, rfl⟩ := List.mem_iff_getElem.1 hm
    exact h i _ (List.getElem?_eq_getElem hi)
  · exact hr
theorem pcD_set {xs : List Int} {t c : Nat} {v : Int} (ht : t < xs.length) : (xs.set t v).getD c 0 = if t = c then v else xs.getD c 0 := by
  simp only [List.getD_eq_getElem?_getD, List.getElem?_set]
  split
  · rename_i e
    subst e
    first | rfl | (rw [if_pos ht]; rfl)
  · rfl
theorem Good4.do4 {p : Prg} {split : Bool} {s : St} (h : Good4 p split s) (hv : Shape p) {m : Nat} (hm : m < p.length + s.buf.length) (hc : can4 p s split m = true) : Good4 p split (do4 p s split m) := by
  unfold can4 at hc
  unfold Proofs.Ytbncmeggnhggkaa.do4
  by_cases hlt : m < p.length
  · rw [if_pos hlt] at hc ⊢
    unfold ready4 at hc
    simp only [Bool.and_eq_true] at hc
    have hgo := hc.1
    obtain ⟨xs, k, x, hp, hk, hx, hiv, hn, _⟩ := h.next hv hgo
    have hpl : m < s.pc.length := by rw [h.pcl]; exact hlt
    split
    · exact ⟨h.toGood.do3 hv hgo, h.bufl, h.ent, fun t i ht hi => by
        have := h.cnt t i ht hi
        show ((row4 s (t * nb split + i)).length : Int) ≤ (s.pc.set m (s.pc.getD m 0 + 1)).getD t 0
        rw [pcD_set hpl]
        split
        · rename_i e; subst e; omega
        · exact this⟩
    · split
      · refine ⟨⟨by simpa using h.pcl, by simpa using h.regl, h.meml, pcb_step h.toGood hp hk hx, set_bd h.regb (h.seen _ _), h.memb⟩, h.bufl, h.ent, fun t i ht hi => ?_⟩
        have := h.cnt t i ht hi
        show ((row4 s (t * nb split + i)).length : Int) ≤ (s.pc.set m (s.pc.getD m 0 + 1)).getD t 0
        rw [pcD_set hpl]
        split
        · rename_i e; subst e; omega
        · exact this
      · obtain ⟨l, hl, hl2⟩ := valid_loc hiv
        rw [hn, hl, Int.toNat_natCast]
        have hpb : place m l split < s.buf.length := by rw [h.bufl]; exact place_lt hlt hl2
        have hw := h.wv (t := m) hiv
        refine ⟨⟨by simpa using h.pcl, h.regl, h.meml, pcb_step h.toGood hp hk hx, h.regb, h.memb⟩, by simpa using h.bufl, ent_set h.ent (fun e he => ?_), fun t i ht hi => ?_⟩
        · rcases List.mem_append.1 he with he | he
          · exact h.ent _ _ (row4_get hpb) e he
          · simp at he
            subst he
            exact ⟨by simp only; omega, hw⟩
        · show ((row4 ⟨_, _, _, s.buf.set (place m l split) _⟩ (t * nb split + i)).length : Int) ≤ (s.pc.set m (s.pc.getD m 0 + 1)).getD t 0
          rw [row4_set hpb, pcD_set hpl]
          have hold := h.cnt t i ht hi
          obtain ⟨j, hj, he⟩ := place_eq m l split hl2
          by_cases e1 : place m l split = t * nb split + i
          · have hmt : m = t := by
              rw [he] at e1
              have h1 : (m * nb split + j) / nb split = m := by rw [Nat.mul_comm, Nat.mul_add_div (by omega), Nat.div_eq_of_lt hj]; rfl
              have h2 : (t * nb split + i) / nb split = t := by rw [Nat.mul_comm, Nat.mul_add_div (by omega), Nat.div_eq_of_lt hi]; rfl
              rw [e1, h2] at h1
              exact h1.symm
            rw [if_pos e1, if_pos hmt, e1]
            rw [List.length_append]
            subst hmt
            rw [List.length_singleton, Int.natCast_add]
            omega
          · rw [if_neg e1]
            split
            · rename_i e; subst e; omega
            · exact hold
  · rw [if_neg hlt] at hc ⊢
    have hb : m - p.length < s.buf.length := by omega
    unfold flush4
    have hhead : ∀ e ∈ row4 s (m - p.length), (0 ≤ e.1 ∧ e.1 ≤ 2) ∧ (0 ≤ e.2 ∧ e.2 ≤ 3) := h.ent _ _ (row4_get hb)
    cases hr : row4 s (m - p.length) with
    | nil => rw [hr] at hc; simp at hc
    | cons e r =>
      rw [hr] at hhead
      refine ⟨⟨h.pcl, h.regl, by simpa using h.meml, h.pcb, h.regb, set_bd h.memb (hhead e List.mem_cons_self).2⟩, by simpa using h.bufl, ent_set h.ent (fun e' he' => hhead e' (List.mem_cons_of_mem _ he')), fun t i ht hi => ?_⟩
      show ((row4 ⟨_, _, _, s.buf.set (m - p.length) _⟩ (t * nb split + i)).length : Int) ≤ s.pc.getD t 0
      rw [row4_set hb]
      have hold := h.cnt t i ht hi
      split
      · rename_i e1
        rw [← e1, hr] at hold
        simp at hold ⊢
        omega
      · exact hold
def mRun (p : Prg) (split : Bool) (ms : List Int) : Option St := Proofs.Ytbncmeggnhggkaa.follow (fun s => moves4 p s split) (fun s m => do4 p s split m.toNat) (start4 p split) ms
def runMov (p : Prg) (split : Bool) (ms : List Int) : List Int × Bool := if progValid p then runRes (done4 p) out3 (mRun p split ms) else ([], false)
def movAft (p : Prg) (split : Bool) (ms : List Int) : List Int := if progValid p then (match mRun p split ms with | some s => moves4 p s split | none => []) else []
theorem good4_step {p : Prg} {split : Bool} (hv : Shape p) (s : St) (m : Int) (h : Good4 p split s) (hm : m ∈ moves4 p s split) : Good4 p split (do4 p s split m.toNat) := by
  obtain ⟨k, rfl, h1, h2⟩ := (mem_moves4 m).1 hm
  exact h.do4 hv (by simpa using h1) (by simpa using h2)
theorem follow_inv {σ : Type} {mv : σ → List Int} {st : σ → Int → σ} {I : σ → Prop} (hst : ∀ s m, I s → m ∈ mv s → I (st s m)) : ∀ (ms : List Int) (s s' : σ), I s → Proofs.Ytbncmeggnhggkaa.follow mv st s ms = some s' → I s'
  | [], s, s', h, e => by simp [Proofs.Ytbncmeggnhggkaa.follow] at e; rw [← e]; exact h
  | m :: ms, s, s', h, e => by
    simp only [Proofs.Ytbncmeggnhggkaa.follow] at e
    split at e
    · exact follow_inv hst ms _ _ (hst s m h (by assumption)) e
    · cases e
theorem mRun_good {p : Prg} {split : Bool} {ms : List Int} {s : St} (hv : Shape p) (h : mRun p split ms = some s) : Good4 p split s := follow_inv (good4_step hv) _ _ _ (good_start4 p split) h
theorem moves4_len {p : Prg} {split : Bool} {s : St} (h : Good4 p split s) (hv : Shape p) : (moves4 p s split).length ≤ 12 := by
  unfold moves4
  rw [List.length_map]
  have h1 := List.length_filter_le (can4 p s split) (List.range (p.length + s.buf.length))
  have h2 := h.blen hv
  have h3 := hv.len
  simp at h1
  omega
theorem runMov_len (p : Prg) (split : Bool) (ms : List Int) : (runMov p split ms).1.length ≤ 1048576 := by
  unfold runMov
  split
  · rename_i hv
    have hsh := (valid_of hv).toShape
    unfold runRes
    split
    · rename_i s hs
      split
      · have := out3_len (mRun_good hsh hs).toGood hsh
        dsimp only
        omega
      · simp
    · simp
  · simp
theorem movAft_len (p : Prg) (split : Bool) (ms : List Int) : (movAft p split ms).length ≤ 1048576 := by
  unfold movAft
  split
  · rename_i hv
    have hsh := (valid_of hv).toShape
    split
    · rename_i s hs
      have := moves4_len (mRun_good hsh hs) hsh
      omega
    · simp
  · simp
end Go.Proofs.Ytbncmeggnhggkaa
