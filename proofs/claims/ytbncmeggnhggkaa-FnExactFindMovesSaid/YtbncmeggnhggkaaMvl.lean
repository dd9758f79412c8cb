/-
  PROVED HERE: plain facts on moves with store buffers: what is left after a move, that a program does not get stuck, that moves stand in ascending order. CONDITIONS: as each lemma states.
-/
import Derived.Test.YtbncmeggnhggkaaBf
namespace Go.Proofs.Ytbncmeggnhggkaa
open Go.RowKit
set_option linter.unusedVariables false
set_option linter.unusedSimpArgs false

theorem range_sum_one {f g : Nat → Nat} {t d : Nat} (h : ∀ i, i ≠ t → g i = f i) (hd : f t = g t + d) : ∀ n, t < n → ((List.range n).map f).sum = ((List.range n).map g).sum + d
  | 0, ht => absurd ht (Nat.not_lt_zero _)
  | n + 1, ht => by
    rw [List.range_succ, List.map_append, List.map_append, List.sum_append, List.sum_append]
    simp only [List.map_cons, List.map_nil, List.sum_cons, List.sum_nil, Nat.add_zero]
    by_cases e : t = n
    · subst e
      have : ((List.range t).map f) = (List.range t).map g := List.map_congr_left fun i hi => (h i (by have := List.mem_range.1 hi; omega)).symm
      rw [this]
      omega
    · have := range_sum_one h hd n (by omega)
      rw [this, h n (fun e' => e e'.symm)]
      omega
theorem range_sum_eq {f g : Nat → Nat} (n : Nat) (h : ∀ i, i < n → g i = f i) : ((List.range n).map f).sum = ((List.range n).map g).sum := by
  rw [List.map_congr_left fun i hi => (h i (List.mem_range.1 hi)).symm]
theorem lens_set : ∀ {bf : List (List (Int × Int))} {b : Nat} {r : List (Int × Int)} (r' : List (Int × Int)), bf[b]? = some r → ((bf.set b r').map List.length).sum + r.length = (bf.map List.length).sum + r'.length
  | x :: bf, 0, r, r', h => by simp at h; subst h; simp; omega
  | x :: bf, b + 1, r, r', h => by
    simp at h
    have := lens_set r' h
    simp only [List.set_cons_succ, List.map_cons, List.sum_cons]
    omega
def cost4 (x : Ins) : Nat := if x.op = 2 ∨ x.op = 3 then 2 else 1
def leftT (p : Prg) (pc : List Int) (t : Nat) : Nat := (((p.getD t []).drop (pc.getD t 0).toNat).map cost4).sum
def left4 (p : Prg) (s : St) : Nat := ((List.range p.length).map (leftT p s.pc)).sum + (s.buf.map List.length).sum
theorem left_pc {p : Prg} {s : St} (h : Good p s) {t k : Nat} {xs : List Ins} {x : Ins} (hp : p[t]? = some xs) (hk : s.pc[t]? = some (k : Int)) (hx : xs[k]? = some x) :
    ((List.range p.length).map (leftT p s.pc)).sum = ((List.range p.length).map (leftT p (s.pc.set t (s.pc.getD t 0 + 1)))).sum + cost4 x := by
  have ht : t < p.length := (List.getElem?_eq_some_iff.1 hp).1
  have hts : t < s.pc.length := by rw [h.pcl]; exact ht
  have e0 : s.pc.getD t 0 = (k : Int) := by rw [List.getD_eq_getElem?_getD, hk]; rfl
  refine range_sum_one (fun i hi => ?_) ?_ _ ht
  · unfold leftT
    rw [pcD_set hts, if_neg (fun e => hi e.symm)]
  · unfold leftT
    rw [pcD_set hts, if_pos rfl, e0, List.getD_eq_getElem?_getD, hp]
    obtain ⟨hk', rfl⟩ := List.getElem?_eq_some_iff.1 hx
    have e1 : ((k : Int) + 1).toNat = k + 1 := by omega
    rw [e1, Int.toNat_natCast]
    show (List.map cost4 (List.drop k xs)).sum = (List.map cost4 (List.drop (k + 1) xs)).sum + cost4 xs[k]
    rw [List.drop_eq_getElem_cons hk', List.map_cons, List.sum_cons]
    omega
/-- One move: one thing less is left. -/
theorem left_step {p : Prg} {split : Bool} {s : St} (h : Good4 p split s) (hv : Shape p) {m : Nat} (hm : m < p.length + s.buf.length) (hc : can4 p s split m = true) : left4 p s = left4 p (do4 p s split m) + 1 := by
  unfold can4 at hc
  unfold do4 left4
  by_cases hlt : m < p.length
  · rw [if_pos hlt] at hc ⊢
    unfold ready4 at hc
    simp only [Bool.and_eq_true] at hc
    obtain ⟨xs, k, x, hp, hk, hx, hiv, hn, _⟩ := h.next hv hc.1
    rw [left_pc h.toGood hp hk hx, hn]
    have hop := valid_op hiv
    split
    · rename_i hw
      have hc1 : cost4 x = 1 := by
        unfold cost4
        unfold waits4 at hw
        simp only [Bool.or_eq_true, beq_iff_eq] at hw
        rw [if_neg (by omega)]
      rw [hc1]
      show _ = _ + (s.buf.map List.length).sum + 1
      simp only [do3]
      omega
    · rename_i hw
      split
      · rename_i h1
        have hc1 : cost4 x = 1 := by
          unfold cost4
          rw [if_neg (by omega)]
        rw [hc1]
        show _ + 1 + _ = ((List.range p.length).map (leftT p (s.pc.set m (s.pc.getD m 0 + 1)))).sum + (s.buf.map List.length).sum + 1
        omega
      · rename_i h1
        unfold waits4 at hw
        simp only [Bool.or_eq_true, beq_iff_eq] at hw
        have hc2 : cost4 x = 2 := by
          unfold cost4
          rw [if_pos (by omega)]
        obtain ⟨l, hl, hl2⟩ := valid_loc hiv
        rw [hc2, hl, Int.toNat_natCast]
        have hpb : place m l split < s.buf.length := by rw [h.bufl]; exact place_lt hlt hl2
        have := lens_set (row4 s (place m l split) ++ [((l : Int), wval s m x)]) (row4_get hpb)
        rw [List.length_append, List.length_singleton] at this
        show _ + 2 + _ = ((List.range p.length).map (leftT p (s.pc.set m (s.pc.getD m 0 + 1)))).sum + ((s.buf.set (place m l split) (row4 s (place m l split) ++ [((l : Int), wval s m x)])).map List.length).sum + 1
        omega
  · rw [if_neg hlt] at hc ⊢
    have hb : m - p.length < s.buf.length := by omega
    unfold flush4
    cases hr : row4 s (m - p.length) with
    | nil => rw [hr] at hc; simp at hc
    | cons e r =>
      have := lens_set r (row4_get hb)
      rw [hr, List.length_cons] at this
      show _ + _ = ((List.range p.length).map (leftT p s.pc)).sum + ((s.buf.set (m - p.length) r).map List.length).sum + 1
      omega
theorem left_follow {p : Prg} {split : Bool} (hv : Shape p) : ∀ (ms : List Int) (s s' : St), Good4 p split s → Proofs.Ytbncmeggnhggkaa.follow (fun s => moves4 p s split) (fun s m => do4 p s split m.toNat) s ms = some s' → left4 p s = left4 p s' + ms.length
  | [], s, s', h, e => by simp [Proofs.Ytbncmeggnhggkaa.follow] at e; rw [e]; rfl
  | m :: ms, s, s', h, e => by
    simp only [Proofs.Ytbncmeggnhggkaa.follow] at e
    split at e
    · rename_i hm
      have := left_follow hv ms _ _ (good4_step hv s m h hm) e
      obtain ⟨k, rfl, h1, h2⟩ := (mem_moves4 m).1 hm
      rw [left_step h hv h1 h2, List.length_cons]
      rw [Int.toNat_natCast] at this
      omega
    · cases e
theorem cost_sum (xs : List Ins) : (xs.map cost4).sum = xs.length + xs.countP (fun x => x.op == 2) + xs.countP (fun x => x.op == 3) := by
  induction xs with
  | nil => rfl
  | cons x xs ih =>
    simp only [List.map_cons, List.sum_cons, List.length_cons, List.countP_cons, ih]
    unfold cost4
    by_cases h2 : x.op = 2
    · simp [h2]; omega
    · by_cases h3 : x.op = 3
      · simp [h3]; omega
      · simp [h2, h3]; omega
theorem range_map_getD : ∀ (p : Prg) (f : List Ins → Nat), ((List.range p.length).map fun t => f (p.getD t [])).sum = (p.map f).sum := by
  intro p f
  congr 1
  apply List.ext_getElem
  · simp
  · intro i h1 h2
    simp at h1 h2
    simp [h1]
theorem left_start (p : Prg) (split : Bool) : left4 p (start4 p split) = (p.map List.length).sum + tot (fun x => x.op == 2) p + tot (fun x => x.op == 3) p := by
  unfold left4
  have e1 : ((List.range p.length).map (leftT p (start4 p split).pc)).sum = (p.map fun xs => (xs.map cost4).sum).sum := by
    rw [← range_map_getD]
    refine range_sum_eq _ fun t ht => ?_
    unfold leftT start4 start3
    have : (List.replicate p.length (0 : Int)).getD t 0 = 0 := by
      rw [List.getD_eq_getElem?_getD, List.getElem?_replicate]
      split <;> rfl
    rw [this]
    rfl
  have e2 : ((start4 p split).buf.map List.length).sum = 0 := by
    unfold start4 start3
    simp
  rw [e1, e2]
  unfold tot
  induction p with
  | nil => rfl
  | cons xs p ih =>
    simp only [List.map_cons, List.sum_cons, cost_sum] at ih ⊢
    have := ih (by rw [← range_map_getD]; refine range_sum_eq _ fun t ht => ?_; unfold leftT start4 start3; have : (List.replicate p.length (0 : Int)).getD t 0 = 0 := (by rw [List.getD_eq_getElem?_getD, List.getElem?_replicate]; split <;> rfl); rw [this]; simp [cost_sum]) (by unfold start4 start3; simp)
    omega
theorem left_done {p : Prg} {split : Bool} {s : St} (h : Good4 p split s) (hd : done4 p s = true) : left4 p s = 0 := by
  unfold done4 at hd
  rw [Bool.and_eq_true] at hd
  obtain ⟨hb, hd⟩ := hd
  unfold left4
  have e2 : (s.buf.map List.length).sum = 0 := by
    rw [List.all_eq_true] at hb
    have : ∀ l : List (List (Int × Int)), (∀ r ∈ l, r.isEmpty = true) → (l.map List.length).sum = 0 := by
      intro l
      induction l with
      | nil => intro _; rfl
      | cons r l ih =>
        intro hl
        have h1 := ih fun r hr => hl r (List.mem_cons_of_mem _ hr)
        have h2 := hl r List.mem_cons_self
        rw [List.isEmpty_iff] at h2
        subst h2
        simpa using h1
    exact this _ hb
  have e1 : ((List.range p.length).map (leftT p s.pc)).sum = ((List.range p.length).map fun _ => 0).sum := by
    refine range_sum_eq _ fun t ht => ?_
    unfold done3 at hd
    rw [List.all_eq_true] at hd
    have hdt := hd t (List.mem_range.2 ht)
    obtain ⟨xs, hx⟩ : ∃ xs, p[t]? = some xs := ⟨_, List.getElem?_eq_getElem ht⟩
    obtain ⟨k, hk, hkl⟩ := h.pcb t xs hx
    rw [goes_of hx hk] at hdt
    simp at hdt
    have h1 : s.pc.getD t 0 = (k : Int) := by rw [List.getD_eq_getElem?_getD, hk]; rfl
    have h2 : p.getD t [] = xs := by rw [List.getD_eq_getElem?_getD, hx]; rfl
    unfold leftT
    rw [h1, h2, Int.toNat_natCast, List.drop_eq_nil_of_le hdt]
    rfl
  have e3 : ∀ n : Nat, ((List.range n).map fun _ => 0).sum = 0 := fun n => by
    induction n with
    | zero => rfl
    | succ n ih => rw [List.range_succ, List.map_append, List.sum_append, ih]; rfl
  rw [e1, e2, e3]
/-- Moves that lead to an outcome are as many as instructions and writes that are not swaps. -/
theorem mov_count {p : Prg} {split : Bool} {ms : List Int} (h : (runMov p split ms).2 = true) : ms.length = (p.map List.length).sum + tot (fun x => x.op == 2) p + tot (fun x => x.op == 3) p := by
  unfold runMov at h
  split at h
  · rename_i hv
    have hsh := (valid_of hv).toShape
    unfold runRes at h
    split at h
    · rename_i s hs
      split at h
      · rename_i hd
        have hg := mRun_good hsh hs
        have h1 := left_follow hsh _ _ _ (good_start4 p split) hs
        rw [left_start, left_done hg hd] at h1
        omega
      · cases h
    · cases h
  · cases h
/-- A program does not get stuck: what is not done has a move. -/
theorem move4_some {p : Prg} {split : Bool} {s : St} (h : Good4 p split s) (hd : done4 p s = false) : ∃ j : Nat, j < p.length + s.buf.length ∧ can4 p s split j = true := by
  by_cases hb : (s.buf.all fun x => x.isEmpty) = true
  · have hd3 : done3 p s = false := by
      unfold done4 at hd
      rw [hb, Bool.true_and] at hd
      exact hd
    unfold done3 at hd3
    rw [List.all_eq_false] at hd3
    obtain ⟨t, ht, hg⟩ := hd3
    have ht := List.mem_range.1 ht
    have hg : goes p s t = true := by simpa using hg
    refine ⟨t, by omega, ?_⟩
    unfold can4 ready4
    rw [if_pos ht, hg, Bool.true_and]
    have : empty4 s t split = true := by
      unfold empty4
      rw [List.all_eq_true]
      intro i hi
      unfold row4
      rw [List.getD_eq_getElem?_getD]
      cases hx : s.buf[t * nb split + i]? with
      | none => rfl
      | some r => exact List.all_eq_true.1 hb r (List.mem_of_getElem? hx)
    rw [this, Bool.or_true]
  · have hb : (s.buf.all fun x => x.isEmpty) = false := by simpa using hb
    rw [List.all_eq_false] at hb
    obtain ⟨r, hr, hne⟩ := hb
    obtain ⟨b, hb, rfl⟩ := List.mem_iff_getElem.1 hr
    refine ⟨p.length + b, by omega, ?_⟩
    unfold can4
    rw [if_neg (by omega), Nat.add_sub_cancel_left]
    unfold row4
    rw [List.getD_eq_getElem?_getD, List.getElem?_eq_getElem hb]
    simpa using hne
theorem moves4_ne {p : Prg} {split : Bool} {s : St} (h : Good4 p split s) (hd : done4 p s = false) : moves4 p s split ≠ [] := by
  obtain ⟨j, h1, h2⟩ := move4_some h hd
  intro e
  have := (mem_moves4 (split := split) (j : Int)).2 ⟨j, rfl, h1, h2⟩
  rw [e] at this
  cases this
theorem moves4_done {p : Prg} {split : Bool} {s : St} (h : Good4 p split s) (hv : Shape p) (hd : done4 p s = true) : moves4 p s split = [] := by
  cases hm : moves4 p s split with
  | nil => rfl
  | cons m ms =>
    obtain ⟨k, rfl, h1, h2⟩ := (mem_moves4 m).1 (show m ∈ moves4 p s split by rw [hm]; exact List.mem_cons_self)
    have := left_step h hv h1 h2
    rw [left_done h hd] at this
    omega
theorem moves4_sorted (p : Prg) (s : St) (split : Bool) : (moves4 p s split).Pairwise (· < ·) := by
  unfold moves4
  rw [List.pairwise_map]
  refine ((List.pairwise_lt_range).filter _).imp fun h => ?_
  exact Int.ofNat_lt.2 h
/-- The list of possible moves: it ascends; each can be made, and behind it the program is done or has a move; and where the program is done, it is empty. -/
theorem movAft_lt {p : Prg} {split : Bool} {ms : List Int} {i : Nat} {x y : Int} (h1 : (movAft p split ms)[i]? = some x) (h2 : (movAft p split ms)[i + 1]? = some y) : x < y := by
  have key : ∀ l : List Int, l.Pairwise (· < ·) → l[i]? = some x → l[i + 1]? = some y → x < y := fun l hl a b => by
    obtain ⟨ha, rfl⟩ := List.getElem?_eq_some_iff.1 a
    obtain ⟨hb, rfl⟩ := List.getElem?_eq_some_iff.1 b
    exact List.pairwise_iff_getElem.1 hl _ _ ha hb (by omega)
  refine key _ ?_ h1 h2
  unfold movAft
  split
  · split
    · exact moves4_sorted _ _ _
    · exact .nil
  · exact .nil
theorem movAft_next {p : Prg} {split : Bool} {ms : List Int} {m : Int} (h : m ∈ movAft p split ms) (hr : (runMov p split (ms ++ [m])).2 = false) : movAft p split (ms ++ [m]) ≠ [] := by
  unfold movAft at h ⊢
  unfold runMov at hr
  by_cases hv : progValid p = true
  · have hsh := (valid_of hv).toShape
    rw [if_pos hv] at h hr ⊢
    cases hm : mRun p split ms with
    | none => rw [hm] at h; cases h
    | some s =>
      rw [hm] at h
      dsimp only at h
      have hg := mRun_good hsh hm
      have e : mRun p split (ms ++ [m]) = some (do4 p s split m.toNat) := by
        unfold mRun at hm ⊢
        rw [follow_append, hm]
        simp only [Option.bind_some]
        rw [follow_one, if_pos h]
      rw [e] at hr ⊢
      have hg2 := good4_step hsh s m hg h
      dsimp only
      refine moves4_ne hg2 ?_
      unfold runRes at hr
      dsimp only at hr
      split at hr
      · cases hr
      · rename_i hd; simpa using hd
  · rw [if_neg hv] at h
    cases h
theorem movAft_done {p : Prg} {split : Bool} {ms : List Int} (h : (runMov p split ms).2 = true) : movAft p split ms = [] := by
  unfold runMov at h
  unfold movAft
  split at h
  · rename_i hv
    have hsh := (valid_of hv).toShape
    rw [if_pos hv]
    unfold runRes at h
    split at h
    · rename_i s hs
      split at h
      · rename_i hd
        rw [hs]
        exact moves4_done (mRun_good hsh hs) hsh hd
      · cases h
    · cases h
  · cases h
/-- The first ones of possible moves are possible, and leave the next one possible. -/
theorem movAft_take {p : Prg} {split : Bool} {ms : List Int} {k : Nat} {x : Int} (h : (runMov p split ms).2 = true ∨ movAft p split ms ≠ []) (hx : ms[k]? = some x) : x ∈ movAft p split (ms.take k) := by
  have hv : progValid p = true ∧ ∃ s, mRun p split ms = some s := by
    unfold runMov movAft at h
    by_cases hv : progValid p = true
    · rw [if_pos hv, if_pos hv] at h
      refine ⟨hv, ?_⟩
      cases hm : mRun p split ms with
      | none => rw [hm] at h; rcases h with h | h
                · cases h
                · exact absurd rfl h
      | some s => exact ⟨s, rfl⟩
    · rw [if_neg hv, if_neg hv] at h
      rcases h with h | h
      · cases h
      · exact absurd rfl h
  obtain ⟨hv, s, hs⟩ := hv
  unfold movAft
  rw [if_pos hv]
  have hk : k < ms.length := (List.getElem?_eq_some_iff.1 hx).1
  have e : ms = ms.take k ++ (x :: ms.drop (k + 1)) := by
    obtain ⟨_, rfl⟩ := List.getElem?_eq_some_iff.1 hx
    rw [← List.drop_eq_getElem_cons hk, List.take_append_drop]
  unfold mRun at hs ⊢
  rw [e, follow_append] at hs
  cases hm : Proofs.Ytbncmeggnhggkaa.follow (fun s => moves4 p s split) (fun s m => do4 p s split m.toNat) (start4 p split) (ms.take k) with
  | none => rw [hm] at hs; cases hs
  | some s' =>
    rw [hm] at hs
    simp only [Option.bind_some, Proofs.Ytbncmeggnhggkaa.follow] at hs
    dsimp only
    split at hs
    · assumption
    · cases hs
end Go.Proofs.Ytbncmeggnhggkaa
