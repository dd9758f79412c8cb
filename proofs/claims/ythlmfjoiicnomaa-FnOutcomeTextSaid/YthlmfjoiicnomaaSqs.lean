/-
  PROVED HERE: words for a list of outcomes that lies away from some blocks. what spec.l3Put does: the list that it gives holds the outcome or the same, and is no more than one longer. plain facts on the search through all states with one memory: what it has marked, what is still to do, that it finds an outcome. what spec.l3Find does: it gives the first way from a state to an outcome. words for the search through all states: the table, the list of states still to do, the outcomes. CONDITIONS: as each theorem states.
-/
import Derived.Test.YthlmfjoiicnomaaBst
import Derived.Test.YthlmfjoiicnomaaLes
namespace Go.Proofs.Ythlmfjoiicnomaa
open Go.RowKit
set_option linter.unusedVariables false
set_option linter.unusedSimpArgs false

/-- The rows ps stand from the address a on, away from the blocks of F; rs tells where each lies. -/
abbrev RdLR (w : World) (F : Nat → Prop) (a : Option Addr) (ps : List (List Int)) (rs : List (Option Addr × Nat)) : Prop :=
  rs.length = ps.length ∧ Rd w a (rowsL rs ps) ∧ (ps ≠ [] → ∀ b, blk a = some b → ¬ F b) ∧ ∀ (k : Nat) r xs, rs[k]? = some r → ps[k]? = some xs → Rd w r.1 (ints xs) ∧ xs.length ≤ r.2 ∧ (xs ≠ [] → ∀ b, blk r.1 = some b → ¬ F b)
def RdLX (w : World) (F : Nat → Prop) (a : Option Addr) (ps : List (List Int)) : Prop := ∃ rs : List (Option Addr × Nat), RdLR w F a ps rs
theorem rd_stay {w w' : World} {F : Nat → Prop} {x : Option Addr} {cs : List Value} (h : Rd w x cs) (hk : Keeps F w w') (hF : cs ≠ [] → ∀ b, blk x = some b → ¬ F b) : Rd w' x cs := by
  by_cases hc : cs = []
  · exact .inl hc
  · exact h.keeps hk fun j hj => hF hc j hj
theorem rd_lt {w : World} {x : Option Addr} {cs : List Value} (h : Rd w x cs) (hc : cs ≠ []) : ∀ b, blk x = some b → b < w.heap.size := by
  intro b hb
  rcases h with h | ⟨b', off, rfl, hlt, _⟩
  · exact (hc h).elim
  · simp [blk] at hb
    omega
theorem rowsL_ne {rs : List (Option Addr × Nat)} {ps : List (List Int)} (hl : rs.length = ps.length) (h : rowsL rs ps ≠ []) : ps ≠ [] := by
  rintro rfl
  have : rs = [] := List.eq_nil_of_length_eq_zero hl
  subst this
  exact h rfl
theorem ints_ne {xs : List Int} (h : ints xs ≠ []) : xs ≠ [] := by
  rintro rfl
  exact h rfl
theorem RdLX.turn {w w' : World} {F F' : Nat → Prop} {a : Option Addr} {ps : List (List Int)} (h : RdLX w F a ps) (hk : Keeps F w w') (hF : ∀ k, F' k → F k ∨ w.heap.size ≤ k) : RdLX w' F' a ps := by
  obtain ⟨rs, hl, hr, hw, hi⟩ := h
  refine ⟨rs, hl, rd_stay hr hk (fun hc => hw (rowsL_ne hl hc)), fun hne b hb e => ?_, fun k r xs h1 h2 => ⟨rd_stay (hi k r xs h1 h2).1 hk (fun hc => (hi k r xs h1 h2).2.2 (ints_ne hc)), (hi k r xs h1 h2).2.1, fun hne b hb e => ?_⟩⟩
  · rcases hF b e with e | e
    · exact hw hne b hb e
    · have hc : rowsL rs ps ≠ [] := fun h0 => hne (by
        have := congrArg List.length h0
        rw [length_rowsL hl] at this
        exact List.eq_nil_of_length_eq_zero (by simpa using this))
      have := rd_lt hr hc b hb
      omega
  · rcases hF b e with e | e
    · exact (hi k r xs h1 h2).2.2 hne b hb e
    · have := rd_lt (hi k r xs h1 h2).1 (fun h0 => hne (by simpa using h0)) b hb
      omega
theorem RdLX.below {w w' : World} {F : Nat → Prop} {a : Option Addr} {ps : List (List Int)} (h : RdLX w F a ps) (hb : Below w.heap.size w w') : RdLX w' F a ps :=
  h.turn (Keeps.of_below hb) fun k e => .inl e
theorem RdLX.at' {w : World} {F : Nat → Prop} {a : Option Addr} {ps : List (List Int)} (h : RdLX w F a ps) {k : Nat} {xs : List Int} (hx : ps[k]? = some xs) :
    ∃ b off r c, a = some ⟨b, off, none⟩ ∧ b < w.heap.size ∧ w.cell? ⟨b, off + k, none⟩ = some (.slice r xs.length c) ∧ Rd w r (ints xs) ∧ xs.length ≤ c := by
  obtain ⟨rs, hl, ho, _, hi⟩ := h
  have hk := (List.getElem?_eq_some_iff.1 hx).1
  obtain ⟨b, off, h1, h2, h3⟩ := ho.at k (by rw [length_rowsL hl]; exact hk)
  have e1 : rs[k]? = some rs[k] := List.getElem?_eq_getElem (by omega)
  have e3 := rowsL_get e1 hx
  rw [List.getElem?_eq_getElem (by rw [length_rowsL hl]; exact hk)] at e3
  simp only [Option.some.injEq] at e3
  rw [e3] at h3
  exact ⟨b, off, _, _, h1, h2, h3, (hi k _ _ e1 hx).1, (hi k _ _ e1 hx).2.1⟩
theorem RdLX.nil (w : World) (F : Nat → Prop) (a : Option Addr) : RdLX w F a [] := ⟨[], rfl, .inl rfl, fun h => (h rfl).elim, fun k r xs h => by simp at h⟩
/-- A list made of the first rows of a list, one more row, the other rows. -/
theorem RdLR.put {w w' : World} {F : Nat → Prop} {a a' ao : Option Addr} {ps : List (List Int)} {rs : List (Option Addr × Nat)} {o : List Int} {co k : Nat} (h : RdLR w F a ps rs) (hK : Keeps (fun _ => False) w w') (ho : Rd w' ao (ints o)) (hco : o.length ≤ co) (hoF : o ≠ [] → ∀ b, blk ao = some b → ¬ F b) (haF : ∀ b, blk a' = some b → ¬ F b) (hk : k ≤ ps.length)
    (hr : Rd w' a' ((rowsL rs ps).take k ++ [.slice ao o.length co] ++ (rowsL rs ps).drop k)) : RdLX w' F a' (ps.take k ++ [o] ++ ps.drop k) := by
  obtain ⟨hl, h1, h2, hi⟩ := h
  refine ⟨rs.take k ++ [(ao, co)] ++ rs.drop k, by simp; omega, ?_, fun _ => haF, fun j r xs e1 e2 => ?_⟩
  · have e : rowsL (rs.take k ++ [(ao, co)] ++ rs.drop k) (ps.take k ++ [o] ++ ps.drop k) = (rowsL rs ps).take k ++ [.slice ao o.length co] ++ (rowsL rs ps).drop k := by
      unfold rowsL
      rw [List.zipWith_append (by simp; omega), List.zipWith_append (by simp; omega), List.take_zipWith, List.drop_zipWith]
      rfl
    rw [e]
    exact hr
  · have hkr : (rs.take k).length = k := by rw [List.length_take]; omega
    have hkp : (ps.take k).length = k := by rw [List.length_take]; omega
    have step : ∀ (j' : Nat), rs[j']? = some r → ps[j']? = some xs → Rd w' r.1 (ints xs) ∧ xs.length ≤ r.2 ∧ (xs ≠ [] → ∀ b, blk r.1 = some b → ¬ F b) := fun j' q1 q2 =>
      ⟨(hi j' r xs q1 q2).1.keeps hK fun _ _ e => e, (hi j' r xs q1 q2).2⟩
    rw [List.append_assoc] at e1 e2
    by_cases hj : j < k
    · rw [List.getElem?_append_left (by omega), List.getElem?_take_of_lt hj] at e1
      rw [List.getElem?_append_left (by omega), List.getElem?_take_of_lt hj] at e2
      exact step j e1 e2
    · rw [List.getElem?_append_right (by omega), hkr] at e1
      rw [List.getElem?_append_right (by omega), hkp] at e2
      by_cases hj2 : j = k
      · subst hj2
        rw [Nat.sub_self] at e1 e2
        simp at e1 e2
        subst e1 e2
        exact ⟨ho, hco, hoF⟩
      · obtain ⟨m, hm⟩ : ∃ m, j - k = m + 1 := ⟨j - k - 1, by omega⟩
        rw [hm] at e1 e2
        simp only [List.cons_append, List.nil_append, List.getElem?_cons_succ, List.getElem?_drop] at e1 e2
        exact step _ e1 e2
end Go.Proofs.Ythlmfjoiicnomaa
namespace Go.Proofs.Ythlmfjoiicnomaa
open Go.RowKit
set_option linter.unusedVariables false
set_option linter.unusedSimpArgs false

theorem own_one0 (w : World) (base : Nat) (x : Value) (e : TypeId) (h : base ≤ w.heap.size) : (w.alloc (.cells #[x] e)).ownsRow base e 1 (.slice (some ⟨w.heap.size, 0, none⟩) 1 1) 1 [x] :=
  ⟨rfl, .inr ⟨w.heap.size, 1, #[x], rfl, h, heap_alloc_new w _, Nat.le_refl _, by decide, rfl, rfl⟩⟩
theorem own_capmax {w : World} {base e size n : Nat} {a : Option Addr} {cap : Nat} {cs : List Value} (h : w.ownsRow base e size (.slice a n cap) n cs) (hn : 0 < n) : cap ≤ 9223372036854775807 := by
  rcases h.2 with ⟨_, h0⟩ | ⟨g, cap', cur, hv, _, _, _, hc, _⟩
  · omega
  · simp only [Value.slice.injEq, true_and] at hv
    obtain ⟨_, rfl⟩ := hv
    have : maxLen = 9223372036854775807 := rfl
    omega
theorem rd_take {w : World} {x : Option Addr} {cs : List Value} (h : Rd w x cs) (k : Nat) : Rd w x (cs.take k) := by
  rcases h with rfl | ⟨b, off, rfl, hlt, hc⟩
  · exact .inl (by simp)
  · refine .inr ⟨b, off, rfl, hlt, fun j u hj => hc j u ?_⟩
    rw [List.getElem?_take] at hj
    split at hj
    · exact hj
    · cases hj
theorem rd_drop {w : World} {b off : Nat} {cs : List Value} (h : Rd w (some ⟨b, off, none⟩) cs) (k : Nat) : Rd w (some ⟨b, off + k, none⟩) (cs.drop k) := by
  rcases h with rfl | ⟨b', off', e, hlt, hc⟩
  · exact .inl (by simp)
  · cases e
    refine .inr ⟨b, off + k, rfl, hlt, fun j u hj => ?_⟩
    rw [List.getElem?_drop] at hj
    rw [Nat.add_assoc]
    exact hc _ u hj
theorem rowsL_one (rs : List (Option Addr × Nat)) (ps : List (List Int)) : ∀ u ∈ rowsL rs ps, u.oneCell' = true := by
  intro u hu
  unfold rowsL at hu
  obtain ⟨i, hi⟩ := List.mem_iff_getElem?.1 hu
  rw [List.getElem?_zipWith] at hi
  split at hi
  · cases hi; rfl
  · cases hi
/-- What l3Put gives. -/
def PutPost (w : World) (F : Nat → Prop) (ps : List (List Int)) (o : List Int) (e : Ending) (w' : World) : Prop :=
  ∃ (ab cap : Nat) (ps' : List (List Int)), e = .returned (.slice (some ⟨ab, 0, none⟩) ps'.length cap) ∧ RdLX w' F (some ⟨ab, 0, none⟩) ps' ∧ ps'.length ≤ cap ∧ cap ≤ 9223372036854775807 ∧ ps' ≠ [] ∧ ps'.length ≤ ps.length + 1 ∧ (∀ xs ∈ ps', xs ∈ ps ∨ xs = o) ∧ Below w.heap.size w w'
set_option maxRecDepth 100000 in
set_option maxHeartbeats 3200000 in
theorem l3Put_c (w : World) (F : Nat → Prop) (ab cap : Nat) (ps : List (List Int)) (ao : Option Addr) (co : Nat) (o : List Int) (L : Nat) (h : RdLX w F (some ⟨ab, 0, none⟩) ps) (hcap : ps.length ≤ cap) (hcm : cap ≤ 9223372036854775807) (hF : ∀ k, F k → k < w.heap.size) (ho : Rd w ao (ints o)) (hco : o.length ≤ co) (hoF : o ≠ [] → ∀ b, blk ao = some b → ¬ F b) (hL : ∀ xs ∈ ps, xs.length = L) (hoL : o.length = L) (hL9 : L ≤ 1000) (hn : ps.length ≤ 100000000) :
    Calls Try.prog 99 #[.slice (some ⟨ab, 0, none⟩) ps.length cap, .slice ao o.length co] w (PutPost w F ps o) := by
  have HLS := hid (fun w a c xs (h : Rd w a (ints xs)) (h2 : Rd w ao (ints o)) (hl : xs.length = L) => l3Less_c w a ao c co xs o h h2 (by omega) (by omega))
  have HX := hid h
  have HO := hid ho
  have HCO := hid hco
  have HOF := hid hoF
  have HLN := hid hL
  have HFW := hid hF
  have HOL := hid hoL
  obtain ⟨n, hnn⟩ : ∃ n, n = ps.length := ⟨_, rfl⟩
  have HN := hid hnn
  rw [← hnn] at hn hcap ⊢
  have HSAME := hid (fun (hne : ps ≠ []) (w' : World) (hb : Below w.heap.size w w') => show PutPost w F ps o (.returned (.slice (some ⟨ab, 0, none⟩) n cap)) w' from ⟨ab, cap, ps, by rw [hnn], h.below hb, by omega, hcm, hne, by omega, fun xs hx => .inl hx, hb⟩)
  rw [hoL] at HLS ⊢
  clear hnn h ho hco hoF hL hF hoL
  go_enter Try.func99, Try.ntmps99
  go_wp2_with fail
  go_loopw [5] (fun i wr => ∃ k : Nat, k ≤ n ∧ i = .int .i64 k ∧ Hid (Below w.heap.size w wr)) (fun i _ => n - (intOf i).toNat)
  case atStart => exact ⟨0, Nat.zero_le _, rfl, hid (Below.refl _ _)⟩
  case round =>
    obtain ⟨k, hk, rfl, HB⟩ := hrel
    by_cases hlt : k < n
    · have hki : (k : Int) < n := by omega
      obtain ⟨xs, hxs⟩ : ∃ xs, ps[k]? = some xs := ⟨_, List.getElem?_eq_getElem (by rw [← HN.out]; exact hlt)⟩
      obtain ⟨b, off, r, c, hab, hbl, hcell, hrd, _⟩ := HX.out.at' hxs
      cases hab
      have hxl := HLN.out xs (List.mem_of_getElem? hxs)
      have HXS := hid hxs
      have HR := hid hrd
      rw [hxl, Nat.zero_add] at hcell
      have hcw := (HB.out.cell (p := ⟨ab, k, none⟩) hbl).trans hcell
      have HC0 := hid (And.intro hbl hcell)
      have HW := hid (fun w' (hb : Below w.heap.size w w') => HLS.out w' r c xs (HR.out.below hb) (HO.out.below hb) hxl)
      rw [hxl] at HW
      clear hxs hrd hcell hxl
      go_wp2_with fail
      refine (HW.out wr HB.out).mono ?_
      rintro e w2 ⟨rfl, hb2⟩
      have HB2 := hid (HB.out.trans (hb2.mono HB.out.size))
      clear hb2
      obtain ⟨z, hz⟩ : ∃ z, z = lessTo xs o := ⟨_, rfl⟩
      rw [← hz]
      by_cases hz0 : z < 0
      · go_wp2_with fail
        go_roundw
        case rel => exact ⟨k + 1, by omega, by go_num, HB2⟩
        case measure => simp [intOf]; omega
      · have hz1 : 0 ≤ z := by omega
        have hcw2 := (HB2.out.cell (p := ⟨ab, k, none⟩) HC0.out.1).trans HC0.out.2
        rw [← hz] at HW
        clear hcw
        go_wp2_with fail
        refine (HW.out w2 HB2.out).mono ?_
        rintro e w3 ⟨rfl, hb3⟩
        have HB3 := hid (HB2.out.trans (hb3.mono HB2.out.size))
        clear hb3
        by_cases hz2 : z = 0
        · have hz3 : (z == 0) = true := by simpa using hz2
          go_wp2_with fail
          go_ret
          exact HSAME.out (fun e => by have := HN.out; rw [e] at this; simp at this; omega) _ HB3.out
        · have hz3 : (z == 0) = false := by simpa using hz2
          have hkc : (k : Int) ≤ (cap : Int) := by omega
          obtain ⟨rs, hrr⟩ := HX.out
          have HRR := hid hrr
          obtain ⟨hrl, hrx, _, _⟩ := hrr
          have HRW := hid hrx
          have HRX := hid (hrx.below HB3.out)
          have HRL := hid hrl
          have HTK := hid (show ((rowsL rs ps).take k).length = k by rw [List.length_take, length_rowsL hrl, ← HN.out]; omega)
          clear hrl hrx
          have hb4 : Below w3.heap.size w3 (w3.alloc (.cells #[] 24)) := (Below.refl _ _).alloc (Nat.le_refl _) _
          have HB4 := hid (HB3.out.trans (hb4.mono HB3.out.size))
          have HO4 := hid (own_lit0 w3 w.heap.size 24 1 HB3.out.size)
          have HR4 := hid (rd_take (HRX.out.below hb4) k)
          have hs4 := HB4.out.size
          clear hb4
          go_wp2_with (at_builtin; refine wpList_append_rd rfl (.tmp 36) (.tmp 39) 56 rfl w.heap.size 24 (.slice none 0 0) 1 24 Try.underlying56 Try.info_introw rfl (by decide) _ _ _ rfl HO4.out (some ⟨ab, 0, none⟩) k cap ((rowsL rs ps).take k) rfl HR4.out (by rw [HTK.out, Nat.mul_one]) (fun u hu => rowsL_one rs ps u (List.mem_of_mem_take hu)) (by omega) (by decide) hs4 ?_)
          intro v5 w5 hown5 hgrow5 _
          have HB5 := hid (HB4.out.grown hgrow5 hs4 (fun b hb => (HO4.out.lt b hb).1))
          have HO5 := hid (show w5.ownsRow w.heap.size 24 1 v5 k ((rowsL rs ps).take k) from own_cast hown5 (by omega) (by simp))
          obtain ⟨a5, c5, rfl, _⟩ := own_shape HO5.out
          clear hown5 hgrow5 HO4 HR4
          have hb6 : Below w5.heap.size w5 (w5.alloc (.cells #[.slice ao L co] 24)) := (Below.refl _ _).alloc (Nat.le_refl _) _
          have HB6 := hid (HB5.out.trans (hb6.mono HB5.out.size))
          have HO6 := hid (own_below HO5.out hb6)
          have HR6 := hid (Rd.own (own_one0 w5 w5.heap.size (.slice ao L co) 24 (Nat.le_refl _)))
          have hs6 := HB6.out.size
          clear hb6
          go_wp2_with (at_builtin; refine wpList_append_rd rfl (.tmp 41) (.tmp 43) 56 rfl w.heap.size 24 (.slice none 0 0) 1 24 Try.underlying56 Try.info_introw rfl (by decide) _ _ _ rfl HO6.out (some ⟨w5.heap.size, 0, none⟩) 1 1 [.slice ao L co] rfl HR6.out rfl (by simp [Value.oneCell']) (by omega) (by decide) hs6 ?_)
          intro v7 w7 hown7 hgrow7 _
          have HB7 := hid (HB6.out.grown hgrow7 hs6 (fun b hb => (HO6.out.lt b hb).1))
          have HO7 := hid (show w7.ownsRow w.heap.size 24 1 v7 (k + 1) ((rowsL rs ps).take k ++ [.slice ao L co]) from hown7)
          obtain ⟨a7, c7, rfl, _⟩ := own_shape HO7.out
          have hs7 := HB7.out.size
          clear hown7 hgrow7 HO6 HR6
          have HFIN := hid (fun (w' : World) (a' : Option Addr) (c' m : Nat) (hm : m = n + 1) (hb : Below w.heap.size w w') (hown : w'.ownsRow w.heap.size 24 1 (.slice a' m c') m ((rowsL rs ps).take k ++ [.slice ao L co] ++ (rowsL rs ps).drop k)) => show PutPost w F ps o (.returned (.slice a' m c')) w' from by
            obtain ⟨g, rfl, hg1, hg2⟩ := own_some hown (by omega)
            have hlen : (ps.take k ++ [o] ++ ps.drop k).length = m := by simp only [List.length_append, List.length_take, List.length_drop, List.length_singleton, ← HN.out]; omega
            refine ⟨g, c', ps.take k ++ [o] ++ ps.drop k, by rw [hlen], ?_, by rw [hlen]; exact own_cap hown, own_capmax hown (by omega), by simp, by rw [hlen, ← HN.out]; omega, fun xs hx => ?_, hb⟩
            · exact RdLR.put HRR.out (Keeps.of_below hb) (HO.out.below hb) HCO.out HOF.out (fun b hb' e => by have := HFW.out b e; simp [blk] at hb'; omega) (by rw [← HN.out]; omega) (by rw [HOL.out]; exact Rd.own hown)
            · rcases List.mem_append.1 hx with hx | hx
              · rcases List.mem_append.1 hx with hx | hx
                · exact .inl (List.mem_of_mem_take hx)
                · exact .inr (List.mem_singleton.1 hx)
              · exact .inl (List.mem_of_mem_drop hx))
          by_cases hkc2 : k = cap
          · obtain rfl : k = n := by omega
            subst hkc2
            go_wp2_with (at_builtin; refine wpList_append_rd rfl (.tmp 45) (.tmp 48) 56 rfl w.heap.size 24 (.slice none 0 0) 1 24 Try.underlying56 Try.info_introw rfl (by decide) _ _ _ rfl HO7.out (some ⟨ab, 0, none⟩) 0 0 [] rfl (.inl rfl) rfl (by simp) (by omega) (by decide) hs7 ?_)
            intro v8 w8 hown8 hgrow8 _
            have HB8 := hid (HB7.out.grown hgrow8 hs7 (fun b hb => (HO7.out.lt b hb).1))
            have HDR := hid (show (rowsL rs ps).drop k = [] from List.drop_eq_nil_of_le (by rw [length_rowsL HRL.out, ← HN.out]; exact Nat.le_refl _))
            have HO8 := hid (show w8.ownsRow w.heap.size 24 1 v8 (k + 1) ((rowsL rs ps).take k ++ [.slice ao L co] ++ (rowsL rs ps).drop k) from own_cast hown8 (by omega) (by rw [HDR.out]; simp))
            obtain ⟨a8, c8, rfl, _⟩ := own_shape HO8.out
            clear hown8 hgrow8
            go_wp2_with fail
            go_ret
            exact HFIN.out w8 a8 c8 _ (by omega) HB8.out HO8.out
          · have hkc3 : (k : Int) < (cap : Int) := by omega
            have hkn : (k : Int) ≤ (n : Int) := by omega
            have hnc : (n : Int) ≤ (cap : Int) := by omega
            have HR8 := hid (by have := rd_drop (HRW.out.below HB7.out) k; rwa [Nat.zero_add] at this)
            go_wp2_with (at_builtin; refine wpList_append_rd rfl (.tmp 45) (.tmp 48) 56 rfl w.heap.size 24 (.slice none 0 0) 1 24 Try.underlying56 Try.info_introw rfl (by decide) _ _ _ rfl HO7.out (some ⟨ab, k, none⟩) (n - k) (cap - k) ((rowsL rs ps).drop k) rfl HR8.out (by rw [List.length_drop, length_rowsL HRL.out, ← HN.out]; omega) (fun u hu => rowsL_one rs ps u (List.mem_of_mem_drop hu)) (by omega) (by decide) hs7 ?_)
            intro v8 w8 hown8 hgrow8 _
            have HB8 := hid (HB7.out.grown hgrow8 hs7 (fun b hb => (HO7.out.lt b hb).1))
            have HO8 := hid (show w8.ownsRow w.heap.size 24 1 v8 (n + 1) ((rowsL rs ps).take k ++ [.slice ao L co] ++ (rowsL rs ps).drop k) from own_cast hown8 (by omega) (by simp))
            obtain ⟨a8, c8, rfl, _⟩ := own_shape HO8.out
            clear hown8 hgrow8
            go_wp2_with fail
            go_ret
            exact HFIN.out w8 a8 c8 _ (by omega) HB8.out HO8.out
    · have hki : ¬ ((k : Int) < (n : Int)) := by omega
      have hkc : (k : Int) ≤ (cap : Int) := by omega
      obtain ⟨rs, hrr⟩ := HX.out
      have HRR := hid hrr
      obtain ⟨hrl, hrx, _, _⟩ := hrr
      have HRW := hid hrx
      have HRX := hid (hrx.below HB.out)
      have HRL := hid hrl
      have HTK := hid (show ((rowsL rs ps).take k).length = k by rw [List.length_take, length_rowsL hrl, ← HN.out]; omega)
      clear hrl hrx
      have hb4 : Below wr.heap.size wr (wr.alloc (.cells #[] 24)) := (Below.refl _ _).alloc (Nat.le_refl _) _
      have HB4 := hid (HB.out.trans (hb4.mono HB.out.size))
      have HO4 := hid (own_lit0 wr w.heap.size 24 1 HB.out.size)
      have HR4 := hid (rd_take (HRX.out.below hb4) k)
      have hs4 := HB4.out.size
      clear hb4
      go_wp2_with (at_builtin; refine wpList_append_rd rfl (.tmp 36) (.tmp 39) 56 rfl w.heap.size 24 (.slice none 0 0) 1 24 Try.underlying56 Try.info_introw rfl (by decide) _ _ _ rfl HO4.out (some ⟨ab, 0, none⟩) k cap ((rowsL rs ps).take k) rfl HR4.out (by rw [HTK.out, Nat.mul_one]) (fun u hu => rowsL_one rs ps u (List.mem_of_mem_take hu)) (by omega) (by decide) hs4 ?_)
      intro v5 w5 hown5 hgrow5 _
      have HB5 := hid (HB4.out.grown hgrow5 hs4 (fun b hb => (HO4.out.lt b hb).1))
      have HO5 := hid (show w5.ownsRow w.heap.size 24 1 v5 k ((rowsL rs ps).take k) from own_cast hown5 (by omega) (by simp))
      obtain ⟨a5, c5, rfl, _⟩ := own_shape HO5.out
      clear hown5 hgrow5 HO4 HR4
      have hb6 : Below w5.heap.size w5 (w5.alloc (.cells #[.slice ao L co] 24)) := (Below.refl _ _).alloc (Nat.le_refl _) _
      have HB6 := hid (HB5.out.trans (hb6.mono HB5.out.size))
      have HO6 := hid (own_below HO5.out hb6)
      have HR6 := hid (Rd.own (own_one0 w5 w5.heap.size (.slice ao L co) 24 (Nat.le_refl _)))
      have hs6 := HB6.out.size
      clear hb6
      go_wp2_with (at_builtin; refine wpList_append_rd rfl (.tmp 41) (.tmp 43) 56 rfl w.heap.size 24 (.slice none 0 0) 1 24 Try.underlying56 Try.info_introw rfl (by decide) _ _ _ rfl HO6.out (some ⟨w5.heap.size, 0, none⟩) 1 1 [.slice ao L co] rfl HR6.out rfl (by simp [Value.oneCell']) (by omega) (by decide) hs6 ?_)
      intro v7 w7 hown7 hgrow7 _
      have HB7 := hid (HB6.out.grown hgrow7 hs6 (fun b hb => (HO6.out.lt b hb).1))
      have HO7 := hid (show w7.ownsRow w.heap.size 24 1 v7 (k + 1) ((rowsL rs ps).take k ++ [.slice ao L co]) from hown7)
      obtain ⟨a7, c7, rfl, _⟩ := own_shape HO7.out
      have hs7 := HB7.out.size
      clear hown7 hgrow7 HO6 HR6
      have HFIN := hid (fun (w' : World) (a' : Option Addr) (c' m : Nat) (hm : m = n + 1) (hb : Below w.heap.size w w') (hown : w'.ownsRow w.heap.size 24 1 (.slice a' m c') m ((rowsL rs ps).take k ++ [.slice ao L co] ++ (rowsL rs ps).drop k)) => show PutPost w F ps o (.returned (.slice a' m c')) w' from by
        obtain ⟨g, rfl, hg1, hg2⟩ := own_some hown (by omega)
        have hlen : (ps.take k ++ [o] ++ ps.drop k).length = m := by simp only [List.length_append, List.length_take, List.length_drop, List.length_singleton, ← HN.out]; omega
        refine ⟨g, c', ps.take k ++ [o] ++ ps.drop k, by rw [hlen], ?_, by rw [hlen]; exact own_cap hown, own_capmax hown (by omega), by simp, by rw [hlen, ← HN.out]; omega, fun xs hx => ?_, hb⟩
        · exact RdLR.put HRR.out (Keeps.of_below hb) (HO.out.below hb) HCO.out HOF.out (fun b hb' e => by have := HFW.out b e; simp [blk] at hb'; omega) (by rw [← HN.out]; omega) (by rw [HOL.out]; exact Rd.own hown)
        · rcases List.mem_append.1 hx with hx | hx
          · rcases List.mem_append.1 hx with hx | hx
            · exact .inl (List.mem_of_mem_take hx)
            · exact .inr (List.mem_singleton.1 hx)
          · exact .inl (List.mem_of_mem_drop hx))
      by_cases hkc2 : k = cap
      · obtain rfl : k = n := by omega
        subst hkc2
        go_wp2_with (at_builtin; refine wpList_append_rd rfl (.tmp 45) (.tmp 48) 56 rfl w.heap.size 24 (.slice none 0 0) 1 24 Try.underlying56 Try.info_introw rfl (by decide) _ _ _ rfl HO7.out (some ⟨ab, 0, none⟩) 0 0 [] rfl (.inl rfl) rfl (by simp) (by omega) (by decide) hs7 ?_)
        intro v8 w8 hown8 hgrow8 _
        have HB8 := hid (HB7.out.grown hgrow8 hs7 (fun b hb => (HO7.out.lt b hb).1))
        have HDR := hid (show (rowsL rs ps).drop k = [] from List.drop_eq_nil_of_le (by rw [length_rowsL HRL.out, ← HN.out]; exact Nat.le_refl _))
        have HO8 := hid (show w8.ownsRow w.heap.size 24 1 v8 (k + 1) ((rowsL rs ps).take k ++ [.slice ao L co] ++ (rowsL rs ps).drop k) from own_cast hown8 (by omega) (by rw [HDR.out]; simp))
        obtain ⟨a8, c8, rfl, _⟩ := own_shape HO8.out
        clear hown8 hgrow8
        go_wp2_with fail
        go_ret
        exact HFIN.out w8 a8 c8 _ (by omega) HB8.out HO8.out
      · have hkc3 : (k : Int) < (cap : Int) := by omega
        have hkn : (k : Int) ≤ (n : Int) := by omega
        have hnc : (n : Int) ≤ (cap : Int) := by omega
        have HR8 := hid (by have := rd_drop (HRW.out.below HB7.out) k; rwa [Nat.zero_add] at this)
        go_wp2_with (at_builtin; refine wpList_append_rd rfl (.tmp 45) (.tmp 48) 56 rfl w.heap.size 24 (.slice none 0 0) 1 24 Try.underlying56 Try.info_introw rfl (by decide) _ _ _ rfl HO7.out (some ⟨ab, k, none⟩) (n - k) (cap - k) ((rowsL rs ps).drop k) rfl HR8.out (by rw [List.length_drop, length_rowsL HRL.out, ← HN.out]; omega) (fun u hu => rowsL_one rs ps u (List.mem_of_mem_drop hu)) (by omega) (by decide) hs7 ?_)
        intro v8 w8 hown8 hgrow8 _
        have HB8 := hid (HB7.out.grown hgrow8 hs7 (fun b hb => (HO7.out.lt b hb).1))
        have HO8 := hid (show w8.ownsRow w.heap.size 24 1 v8 (n + 1) ((rowsL rs ps).take k ++ [.slice ao L co] ++ (rowsL rs ps).drop k) from own_cast hown8 (by omega) (by simp))
        obtain ⟨a8, c8, rfl, _⟩ := own_shape HO8.out
        clear hown8 hgrow8
        go_wp2_with fail
        go_ret
        exact HFIN.out w8 a8 c8 _ (by omega) HB8.out HO8.out
end Go.Proofs.Ythlmfjoiicnomaa
namespace Go.Proofs.Ythlmfjoiicnomaa
open Go.RowKit
set_option linter.unusedVariables false
set_option linter.unusedSimpArgs false

/-- The search: what is marked, what is still to do, which states have given outcomes, how many outcomes there are; X: the state at hand. -/
structure SeqK (p : Prg) (tb : List (List ByteArray)) (work dn : List St) (no : Nat) (X : St → Prop) : Prop where
  ok : TabOk (G3 p) tb
  wg : ∀ s ∈ work, G3 p s ∧ foundT tb (keyS s) = true
  wn : work.Nodup
  dg : ∀ s ∈ dn, G3 p s ∧ done3 p s = true ∧ foundT tb (keyS s) = true ∧ s ∉ work
  dnn : dn.Nodup
  le : no ≤ dn.length
  ex : ∀ s, G3 p s → foundT tb (keyS s) = true → s ∈ work ∨ X s ∨ ((done3 p s = true → 0 < no) ∧ ∀ t, goes p s t = true → foundT tb (keyS (do3 p s t)) = true)
  st : foundT tb (keyS (start3 p 0)) = true
theorem SeqK.start {p : Prg} (hv : Shape p) : SeqK p (markT (List.replicate 4096 []) (keyS (start3 p 0))) [start3 p 0] [] 0 (fun _ => False) := by
  have hl : (List.replicate 4096 ([] : List ByteArray)).length = 4096 := List.length_replicate
  have hs : foundT (markT (List.replicate 4096 []) (keyS (start3 p 0))) (keyS (start3 p 0)) = true := (found_mark hl _ _).2 (.inr rfl)
  refine ⟨(TabOk.start _).mark (G3.start p) (found_start _), fun s hs' => ?_, by simp, fun s h => (by cases h), .nil, Nat.le_refl _, fun s hg hf => ?_, hs⟩
  · rw [List.mem_singleton] at hs'
    subst hs'
    exact ⟨G3.start p, hs⟩
  · rcases (found_mark hl _ _).1 hf with h | h
    · rw [found_start] at h; cases h
    · exact .inl (by rw [hg.inj (G3.start p) hv h]; exact List.mem_singleton_self _)
section
variable {p : Prg} {tb : List (List ByteArray)} {work dn : List St} {no : Nat} {s : St} {X : St → Prop}
theorem SeqK.pop (h : SeqK p tb (work ++ [s]) dn no (fun _ => False)) : SeqK p tb work dn no (· = s) ∧ G3 p s ∧ foundT tb (keyS s) = true ∧ s ∉ work ∧ s ∉ dn := by
  have hn := List.nodup_append.1 h.wn
  have hs : s ∈ work ++ [s] := List.mem_append.2 (.inr (List.mem_singleton_self _))
  refine ⟨⟨h.ok, fun x hx => h.wg x (List.mem_append.2 (.inl hx)), hn.1, fun x hx => ?_, h.dnn, h.le, fun x hg hf => ?_, h.st⟩, (h.wg s hs).1, (h.wg s hs).2, fun hm => hn.2.2 s hm s (List.mem_singleton_self _) rfl, fun hm => (h.dg s hm).2.2.2 hs⟩
  · obtain ⟨h1, h2, h3, h4⟩ := h.dg x hx
    exact ⟨h1, h2, h3, fun e => h4 (List.mem_append.2 (.inl e))⟩
  · rcases h.ex x hg hf with h1 | h1 | h1
    · rcases List.mem_append.1 h1 with h1 | h1
      · exact .inl h1
      · exact .inr (.inl (List.mem_singleton.1 h1))
    · exact h1.elim
    · exact .inr (.inr h1)
theorem SeqK.put {no' : Nat} (h : SeqK p tb work dn no X) (hg : G3 p s) (hd : done3 p s = true) (hf : foundT tb (keyS s) = true) (hw : s ∉ work) (hdn : s ∉ dn) (h1 : no' ≤ no + 1) (h0 : 0 < no') : SeqK p tb work (dn ++ [s]) no' X := by
  refine ⟨h.ok, h.wg, h.wn, fun x hx => ?_, ?_, ?_, fun x hg hf => ?_, h.st⟩
  · rcases List.mem_append.1 hx with hx | hx
    · exact h.dg x hx
    · rw [List.mem_singleton] at hx
      subst hx
      exact ⟨hg, hd, hf, hw⟩
  · rw [List.nodup_append]
    refine ⟨h.dnn, by simp, fun a ha b hb => ?_⟩
    rw [List.mem_singleton] at hb
    rintro rfl
    subst hb
    exact hdn ha
  · rw [List.length_append, List.length_singleton]
    have := h.le
    omega
  · exact (h.ex x hg hf).imp id (Or.imp id fun h => ⟨fun _ => h0, h.2⟩)
theorem SeqK.push (hv : Shape p) (h : SeqK p tb work dn no (· = s)) (hg : G3 p s) (hf : foundT tb (keyS s) = true) {t : Nat} (hgo : goes p s t = true) (hn : foundT tb (keyS (do3 p s t)) = false) :
    SeqK p (markT tb (keyS (do3 p s t))) (work ++ [do3 p s t]) dn no (· = s) ∧ foundT (markT tb (keyS (do3 p s t))) (keyS s) = true ∧ foundT (markT tb (keyS (do3 p s t))) (keyS (do3 p s t)) = true ∧ (∀ u, foundT tb u = true → foundT (markT tb (keyS (do3 p s t))) u = true) ∧ s ∉ [do3 p s t] := by
  have hc := hg.step hv hgo
  obtain ⟨c, he⟩ : ∃ c, c = do3 p s t := ⟨_, rfl⟩
  rw [← he] at hn hc ⊢
  have up : ∀ u, foundT tb u = true → foundT (markT tb (keyS c)) u = true := fun u hu => (found_mark h.ok.len _ _).2 (.inl hu)
  have hcc : foundT (markT tb (keyS c)) (keyS c) = true := (found_mark h.ok.len _ _).2 (.inr rfl)
  have ne : ∀ x, foundT tb (keyS x) = true → x ≠ c := fun x hx e => by rw [e, hn] at hx; cases hx
  refine ⟨⟨h.ok.mark hc hn, fun x hx => ?_, ?_, fun x hx => ?_, h.dnn, h.le, fun x hgx hfx => ?_, up _ h.st⟩, up _ hf, hcc, up, fun hm => ne s hf (List.mem_singleton.1 hm)⟩
  · rcases List.mem_append.1 hx with hx | hx
    · exact ⟨(h.wg x hx).1, up _ (h.wg x hx).2⟩
    · rw [List.mem_singleton] at hx
      subst hx
      exact ⟨hc, hcc⟩
  · rw [List.nodup_append]
    refine ⟨h.wn, by simp, fun a ha b hb => ?_⟩
    rw [List.mem_singleton] at hb
    subst hb
    exact ne a (h.wg a ha).2
  · obtain ⟨h1, h2, h3, h4⟩ := h.dg x hx
    refine ⟨h1, h2, up _ h3, fun hm => ?_⟩
    rcases List.mem_append.1 hm with hm | hm
    · exact h4 hm
    · exact ne x h3 (List.mem_singleton.1 hm)
  · rcases (found_mark h.ok.len _ _).1 hfx with h1 | h1
    · rcases h.ex x hgx h1 with h2 | h2 | h2
      · exact .inl (List.mem_append.2 (.inl h2))
      · exact .inr (.inl h2)
      · exact .inr (.inr ⟨h2.1, fun t ht => up _ (h2.2 t ht)⟩)
    · exact .inl (List.mem_append.2 (.inr (by rw [hgx.inj hc hv h1]; exact List.mem_singleton_self _)))
theorem SeqK.close (h : SeqK p tb work dn no (· = s)) (hd : done3 p s = true → 0 < no) (hc : ∀ t, goes p s t = true → foundT tb (keyS (do3 p s t)) = true) : SeqK p tb work dn no (fun _ => False) :=
  ⟨h.ok, h.wg, h.wn, h.dg, h.dnn, h.le, fun x hg hf => by
    rcases h.ex x hg hf with h1 | h1 | h1
    · exact .inl h1
    · subst h1; exact .inr (.inr ⟨hd, hc⟩)
    · exact .inr (.inr h1), h.st⟩
/-- A search that has come to its end has found an outcome. -/
theorem SeqK.finish (hv : Shape p) (h : SeqK p tb [] dn no (fun _ => False)) : 0 < no := by
  have key : ∀ n s, left4 p s = n → G3 p s → foundT tb (keyS s) = true → 0 < no := by
    intro n
    induction n using Nat.strongRecOn with
    | ind n ih =>
      intro s hn hg hf
      rcases h.ex s hg hf with h1 | h1 | ⟨h1, h2⟩
      · cases h1
      · exact h1.elim
      · by_cases hd : done3 p s = true
        · exact h1 hd
        · unfold done3 at hd
          rw [List.all_eq_true] at hd
          have : ∃ t, goes p s t = true := Classical.byContradiction fun hx => hd fun t ht => by
            cases hgo : goes p s t with
            | false => rfl
            | true => exact (hx ⟨t, hgo⟩).elim
          obtain ⟨t, ht⟩ := this
          have := left_do3 hg.toGood hv ht
          exact ih _ (by omega) _ rfl (hg.step hv ht) (h2 t ht)
  exact key _ _ rfl (G3.start p) h.st
theorem SeqK.few (hv : Shape p) (h : SeqK p tb work dn no X) : no ≤ 16777216 := by
  refine Nat.le_trans h.le ?_
  have hb : ∀ s ∈ dn, ∀ x ∈ s.regs ++ s.mem, 0 ≤ x ∧ x < 4 := fun s hs x hx => by
    have hg := (h.dg s hs).1
    rcases List.mem_append.1 hx with hx | hx
    · have := hg.regb x hx; omega
    · have := hg.memb x hx; omega
  have hlen : ∀ s ∈ dn, (s.regs ++ s.mem).length = p.length * 3 + 3 := fun s hs => by
    have hg := (h.dg s hs).1
    rw [List.length_append, hg.regl, hg.meml]
  have := nodup_code (fun s => code 4 (s.regs ++ s.mem)) (4 ^ 12) dn h.dnn (fun s hs => Proofs.Ythlmfjoiicnomaa.code_lt 4 (by decide) 12 _ (by rw [hlen s hs]; have := hv.len; omega) (hb s hs)) fun s hs s' hs' e => by
    have e2 := Proofs.Ythlmfjoiicnomaa.code_inj 4 _ _ (by rw [hlen s hs, hlen s' hs']) (hb s hs) (hb s' hs') e
    obtain ⟨g, d, _⟩ := h.dg s hs
    obtain ⟨g', d', _⟩ := h.dg s' hs'
    have e3 := List.append_inj e2 (by rw [g.regl, g'.regl])
    have e4 : s.pc = s'.pc := by
      apply List.ext_getElem?
      intro t
      by_cases ht : t < p.length
      · have hp := List.getElem?_eq_getElem ht
        have at_ : ∀ {s : St}, G3 p s → done3 p s = true → s.pc[t]? = some ((p[t].length : Nat) : Int) := fun {s} g d => by
          obtain ⟨k, hk, hkl⟩ := g.pcb t _ hp
          unfold done3 at d
          rw [List.all_eq_true] at d
          have := d t (List.mem_range.2 ht)
          rw [goes_of hp hk] at this
          simp at this
          rw [hk]
          congr 1
          omega
        rw [at_ g d, at_ g' d']
      · rw [List.getElem?_eq_none (by rw [g.pcl]; omega), List.getElem?_eq_none (by rw [g'.pcl]; omega)]
    have e5 : s.buf = s'.buf := by rw [g.nobuf, g'.nobuf]
    cases s; cases s'
    simp only at e3 e4 e5
    rw [e4, e3.1, e3.2, e5]
  exact Nat.le_trans this (by decide)
theorem SeqK.wlen (hv : Shape p) (h : SeqK p tb work dn no X) : work.length ≤ 8600000000 :=
  Nat.le_trans (nodup_code code3 (8 ^ 3 * 4 ^ 12) work h.wn (fun s hs => (h.wg s hs).1.code_lt hv) fun s hs s' hs' e => (h.wg s hs).1.code_inj (h.wg s' hs').1 hv e) (by decide)
end
/-- How much is still to do. -/
def wt (p : Prg) (work : List St) : Nat := (work.map fun s => 4 ^ left4 p s).sum
theorem wt_snoc (p : Prg) (work : List St) (s : St) : wt p (work ++ [s]) = wt p work + 4 ^ left4 p s := by
  unfold wt
  rw [List.map_append, List.sum_append]
  simp
theorem wt_child {p : Prg} {s c : St} (h : left4 p c < left4 p s) : 4 ^ left4 p c ≤ 4 ^ left4 p s / 4 := by
  obtain ⟨n, hn⟩ : ∃ n, left4 p s = n + 1 := ⟨left4 p s - 1, by omega⟩
  rw [hn, Nat.pow_succ, Nat.mul_div_cancel _ (by decide)]
  exact Nat.pow_le_pow_right (by decide) (by omega)
theorem wt_pos (p : Prg) (s : St) : 1 ≤ 4 ^ left4 p s := Nat.one_le_pow _ _ (by decide)
end Go.Proofs.Ythlmfjoiicnomaa
namespace Go.Proofs.Ythlmfjoiicnomaa
open Go.RowKit
set_option linter.unusedVariables false
set_option linter.unusedSimpArgs false

theorem own_one (w : World) (base : Nat) (x : Value) (e : TypeId) (h : base ≤ w.heap.size) : (w.alloc (.cells #[x] e)).ownsRow base e 1 (.slice (some ⟨w.heap.size, 0, none⟩) 1 1) 1 [x] :=
  ⟨rfl, .inr ⟨w.heap.size, 1, #[x], rfl, h, heap_alloc_new w _, Nat.le_refl _, by decide, rfl, rfl⟩⟩
theorem G3.smallS {p : Prg} {s : St} (h : G3 p s) (hv : Shape p) : SmallS s := by
  have w8 : ∀ x : Int, 0 ≤ x → x < 256 → IntKind.u8.wrap x = x := by
    have key : ∀ n < 256, IntKind.u8.wrap (n : Nat) = (n : Int) := by decide +kernel
    intro x h0 h1
    have := key x.toNat (by omega)
    rw [Int.toNat_of_nonneg h0] at this
    exact this
  have h3 := hv.len
  refine ⟨fun x hx => ?_, fun x hx => ?_, fun x hx => ?_, fun k x hx => ?_, ?_, ?_, ?_⟩
  · have := h.toGood.pc7 hv x hx; exact w8 x (by omega) (by omega)
  · have := h.regb x hx; exact w8 x (by omega) (by omega)
  · have := h.memb x hx; exact w8 x (by omega) (by omega)
  · unfold row4 at hx
    rw [h.nobuf] at hx
    cases hx
  · rw [h.pcl, h.regl, h.meml, h.nobuf]
    simp [keyR]
    omega
  · rw [h.meml]; decide
  · rw [h.nobuf]; simp
theorem G3.sm {p : Prg} {s : St} (h : G3 p s) : Small s := ⟨by rw [h.nobuf]; simp, by rw [h.nobuf]; intro xs hx; cases hx⟩
theorem G3.size {p : Prg} {s : St} (h : G3 p s) (hv : Shape p) : (keyS s).size ≤ 1000000 := by
  unfold keyS
  rw [strOfNums_size, h.keyB]
  have := hv.len
  simp only [List.length_append, h.pcl, h.regl, h.meml]
  omega
/-- The table beside all that lay there before the search. -/
structure FiW (w0 w : World) (p : Prg) (g : Nat) (S : Nat → Prop) (tb : List (List ByteArray)) : Prop where
  below : Below w0.heap.size w0 w
  tab : Tab w g S tb
  ok : TabOk (G3 p) tb
  hS : ∀ b, S b → w0.heap.size ≤ b ∧ b < w.heap.size
theorem FiW.step {w0 w w' : World} {p : Prg} {g : Nat} {S : Nat → Prop} {tb : List (List ByteArray)} (h : FiW w0 w p g S tb) (hb : Below w.heap.size w w') : FiW w0 w' p g S tb :=
  ⟨h.below.trans (hb.mono h.below.size), h.tab.below hb, h.ok, fun b hb' => ⟨(h.hS b hb').1, Nat.lt_of_lt_of_le (h.hS b hb').2 hb.size⟩⟩
theorem FiW.change {w0 w w' : World} {p : Prg} {g : Nat} {S S' : Nat → Prop} {tb tb' : List (List ByteArray)} (h : FiW w0 w p g S tb) (ht : Tab w' g S' tb') (hk : Keeps S w w') (hs : ∀ b, S' b → S b ∨ (w.heap.size ≤ b ∧ b < w'.heap.size)) (ho : TabOk (G3 p) tb') : FiW w0 w' p g S' tb' :=
  ⟨Proofs.Ythlmfjoiicnomaa.Below.keeps h.below hk h.below.size (fun b hb => (h.hS b hb).1), ht, ho, fun b hb => by
    have h1 := h.below.size
    have h2 := hk.size
    rcases hs b hb with h3 | h3
    · exact ⟨(h.hS b h3).1, Nat.lt_of_lt_of_le (h.hS b h3).2 h2⟩
    · exact ⟨by omega, h3.2⟩⟩
/-- A box beside the table. -/
def BoxA (w : World) (S : Nat → Prop) (H : Nat) (cs : Array Value) : Prop := w.heap[H]? = some (.cells cs 148 (0, 0)) ∧ ¬ S H
theorem BoxA.lt {w : World} {S : Nat → Prop} {H : Nat} {cs : Array Value} (h : BoxA w S H cs) : H < w.heap.size := (Array.getElem?_eq_some_iff.1 h.1).1
theorem BoxA.below {w w' : World} {S : Nat → Prop} {H : Nat} {cs : Array Value} (h : BoxA w S H cs) (hb : Below w.heap.size w w') : BoxA w' S H cs := ⟨(hb.block _ h.lt).trans h.1, h.2⟩
theorem BoxA.change {w w' : World} {S S' : Nat → Prop} {H : Nat} {cs : Array Value} {u : Nat} (h : BoxA w S H cs) (hk : Keeps S w w') (hs : ∀ b, S' b → S b ∨ (w.heap.size ≤ b ∧ b < u)) : BoxA w' S' H cs := by
  refine ⟨(hk.block _ h.lt h.2).trans h.1, fun e => ?_⟩
  rcases hs H e with h1 | h1
  · exact h.2 h1
  · have := h.lt; omega
theorem BoxA.cells {w : World} {S : Nat → Prop} {H : Nat} {a b c d : Value} (h : BoxA w S H #[a, b, c, d]) : w.cell? ⟨H, 0, none⟩ = some a ∧ w.cell? ⟨H, 1, none⟩ = some b ∧ w.cell? ⟨H, 2, none⟩ = some c ∧ w.cell? ⟨H, 3, none⟩ = some d := by
  have e := fun (i : Nat) => cell_of_row w H i _ _ _ h.1
  exact ⟨e 0, e 1, e 2, e 3⟩
theorem StA.chg {w w' : World} {S S' : Nat → Prop} {q : Sp} {s : St} {u : Nat} (h : StA w S q s) (hk : Keeps S w w') (hS : ∀ b, S' b → S b ∨ (w.heap.size ≤ b ∧ b < u)) : StA w' S' q s := h.change hk fun b hb => (hS b hb).imp id (·.1)
/-- What the search leaves: the first way, if there is one; the table as it has grown. -/
def FindPost (w0 w : World) (p : Prg) (o : List Int) (g : Nat) (S : Nat → Prop) (tb : List (List ByteArray)) (n : Nat) (s : St) (e : Ending) (w' : World) : Prop :=
  ∃ (π : List Int) (B : Bool) (ar : Option Addr) (cr : Nat) (S' : Nat → Prop) (tb' : List (List ByteArray)), e = .returned (.tuple #[.slice ar π.length cr, .bool B]) ∧ ((bestS p o s = some π ∧ B = true) ∨ (bestS p o s = none ∧ B = false ∧ π = [])) ∧ w'.ownsRow w.heap.size 3 1 (.slice ar π.length cr) π.length (ints π) ∧ FiW w0 w' p g S' tb' ∧ Keeps S w w' ∧
    (∀ b, S' b → S b ∨ (w.heap.size ≤ b ∧ b < w'.heap.size)) ∧ (B = false → Grow p tb tb' n ∧ Sound p o tb' n)
/-- The loop of the search: k threads have been tried without success. -/
structure FiL (w0 w wr : World) (p : Prg) (o : List Int) (g : Nat) (S Sr : Nat → Prop) (tb tbr : List (List ByteArray)) (n : Nat) (q : Sp) (s : St) (H k : Nat) : Prop where
  fi : FiW w0 wr p g Sr tbr
  st : StA wr Sr q s
  bx : BoxA wr Sr H (q.cs s)
  kp : Keeps S w wr
  gs : ∀ b, Sr b → S b ∨ (w.heap.size ≤ b ∧ b < wr.heap.size)
  gr : Grow p tb tbr n
  sd : Sound p o tbr n
  no : ∀ t, t < k → goes p s t = true → bestS p o (do3 p s t) = none
theorem FiL.step {w0 w wr w' : World} {p : Prg} {o : List Int} {g : Nat} {S Sr : Nat → Prop} {tb tbr : List (List ByteArray)} {n : Nat} {q : Sp} {s : St} {H k : Nat} (h : FiL w0 w wr p o g S Sr tb tbr n q s H k) (hb : Below wr.heap.size wr w') : FiL w0 w w' p o g S Sr tb tbr n q s H k :=
  ⟨h.fi.step hb, h.st.below hb, h.bx.below hb, h.kp.trans (Keeps.of_below hb), fun b hb' => (h.gs b hb').imp id fun ⟨h1, h2⟩ => ⟨h1, Nat.lt_of_lt_of_le h2 hb.size⟩, h.gr, h.sd, h.no⟩
theorem FiL.next {w0 w wr : World} {p : Prg} {o : List Int} {g : Nat} {S Sr : Nat → Prop} {tb tbr : List (List ByteArray)} {n : Nat} {q : Sp} {s : St} {H k : Nat} (h : FiL w0 w wr p o g S Sr tb tbr n q s H k) (hk : goes p s k = true → bestS p o (do3 p s k) = none) : FiL w0 w wr p o g S Sr tb tbr n q s H (k + 1) :=
  ⟨h.fi, h.st, h.bx, h.kp, h.gs, h.gr, h.sd, fun t ht hg => by
    by_cases e : t = k
    · subst e; exact hk hg
    · exact h.no t (by omega) hg⟩
theorem keeps_comp {a b c : World} {S S8 S9 : Nat → Prop} (h1 : Keeps S a b) (h2 : ∀ x, S8 x → S x ∨ (a.heap.size ≤ x ∧ x < b.heap.size)) (h3 : Keeps S8 b c) (h4 : ∀ x, S9 x → S8 x ∨ (b.heap.size ≤ x ∧ x < c.heap.size)) : Keeps S a c ∧ ∀ x, S9 x → S x ∨ (a.heap.size ≤ x ∧ x < c.heap.size) := by
  have z1 := h1.size
  have z3 := h3.size
  refine ⟨⟨h3.os.trans h1.os, h3.tape.trans h1.tape, h3.output.trans h1.output, Nat.le_trans z1 z3, fun x hx hn => (h3.block x (Nat.lt_of_lt_of_le hx z1) fun e => ?_).trans (h1.block x hx hn)⟩, fun x hx => ?_⟩
  · rcases h2 x e with h | h
    · exact hn h
    · omega
  · rcases h4 x hx with h | h
    · rcases h2 x h with h5 | h5
      · exact .inl h5
      · exact .inr ⟨h5.1, by omega⟩
    · exact .inr ⟨by omega, h.2⟩
theorem FiL.out {w0 w wr w' : World} {p : Prg} {o : List Int} {g : Nat} {S Sr S' : Nat → Prop} {tb tbr : List (List ByteArray)} {n : Nat} {q : Sp} {s : St} {H k : Nat} (h : FiL w0 w wr p o g S Sr tb tbr n q s H k) (hk : Keeps Sr wr w') (hs : ∀ b, S' b → Sr b ∨ (wr.heap.size ≤ b ∧ b < w'.heap.size)) : Keeps S w w' ∧ ∀ b, S' b → S b ∨ (w.heap.size ≤ b ∧ b < w'.heap.size) := keeps_comp h.kp h.gs hk hs
theorem cost_le (xs : List Ins) : (xs.map cost4).sum ≤ 2 * xs.length := by
  induction xs with
  | nil => exact Nat.le_refl _
  | cons x xs ih =>
    simp only [List.map_cons, List.sum_cons, List.length_cons]
    have : cost4 x ≤ 2 := by unfold cost4; split <;> omega
    omega
theorem left4_le {p : Prg} {s : St} (h : G3 p s) (hv : Shape p) : left4 p s ≤ 1000 := by
  unfold left4
  rw [h.nobuf]
  have key : ∀ n, n ≤ 3 → ((List.range n).map (leftT p s.pc)).sum ≤ 14 * n := by
    intro n
    induction n with
    | zero => intro _; exact Nat.le_refl _
    | succ n ih =>
      intro hn
      have h1 := ih (by omega)
      rw [List.range_succ, List.map_append, List.sum_append]
      have h2 : leftT p s.pc n ≤ 14 := by
        unfold leftT
        refine Nat.le_trans (cost_le _) ?_
        rw [List.length_drop]
        have : (p.getD n []).length ≤ 7 := by
          rw [List.getD_eq_getElem?_getD]
          cases hx : p[n]? with
          | none => simp
          | some xs => exact hv.row n xs hx
        omega
      simp only [List.map_cons, List.map_nil, List.sum_cons, List.sum_nil]
      omega
  have := key p.length hv.len
  have := hv.len
  simp
  omega
/-- The table turns, within its own blocks and new ones. -/
theorem FiL.turn {w0 w wr w' : World} {p : Prg} {o : List Int} {g : Nat} {S Sr S' : Nat → Prop} {tb tbr tb' : List (List ByteArray)} {n : Nat} {q : Sp} {s : St} {H k : Nat} (h : FiL w0 w wr p o g S Sr tb tbr n q s H k) (hf : FiW w0 w' p g S' tb') (hk : Keeps Sr wr w') (hs : ∀ b, S' b → Sr b ∨ (wr.heap.size ≤ b ∧ b < w'.heap.size)) (hg : Grow p tb tb' n) (hd : Sound p o tb' n) : FiL w0 w w' p o g S S' tb tb' n q s H k := by
  have h1 := h.kp.size
  have h2 := hk.size
  refine ⟨hf, h.st.chg hk hs, h.bx.change hk hs, ?_, fun b hb => ?_, hg, hd, h.no⟩
  · exact ⟨hk.os.trans h.kp.os, hk.tape.trans h.kp.tape, hk.output.trans h.kp.output, Nat.le_trans h1 h2, fun b hb hn => (hk.block b (Nat.lt_of_lt_of_le hb h1) fun e => by
      rcases h.gs b e with h3 | h3
      · exact hn h3
      · omega).trans (h.kp.block b hb hn)⟩
  · rcases hs b hb with h3 | h3
    · rcases h.gs b h3 with h4 | h4
      · exact .inl h4
      · exact .inr ⟨h4.1, by omega⟩
    · exact .inr ⟨by omega, h3.2⟩
theorem out3_length {p : Prg} {s : St} (h : Good p s) : (out3 s).length = p.length * 3 + 3 := by
  unfold out3
  rw [List.length_append, h.regl, h.meml]
theorem bestS_none {p : Prg} (hv : Shape p) {o : List Int} {s : St} (hg : Good p s) (hd : done3 p s = false) (h : ∀ t, t < p.length → goes p s t = true → bestS p o (do3 p s t) = none) : bestS p o s = none := by
  rw [bestS_step hv hg hd]
  refine first_none fun t ht => ?_
  split
  · rename_i hgo
    rw [h t ht hgo]
    rfl
  · rfl
theorem bestS_some {p : Prg} (hv : Shape p) {o : List Int} {s : St} (hg : Good p s) (hd : done3 p s = false) {k : Nat} (hk : k < p.length) (hgo : goes p s k = true) (h : ∀ t, t < k → goes p s t = true → bestS p o (do3 p s t) = none) {π : List Int} (hb : bestS p o (do3 p s k) = some π) : bestS p o s = some ((k : Int) :: π) := by
  rw [bestS_step hv hg hd]
  refine first_some (k := k) (fun t ht => ?_) ?_ _ hk
  · split
    · rename_i hgo
      rw [h t ht hgo]
      rfl
    · rfl
  · rw [if_pos hgo, hb]
    rfl
end Go.Proofs.Ythlmfjoiicnomaa
namespace Go.Proofs.Ythlmfjoiicnomaa
open Go.RowKit
set_option linter.unusedVariables false
set_option linter.unusedSimpArgs false

theorem Try.info_st : (Try.prog.info? 148).map (fun i => (i.zero, i.size, i.bytes)) = some (some (.agg zSt), 4, 96) := by kernel_rfl
/-- The cells of the states still to do. -/
def cellsW (wk : List (Sp × St)) : List Value := wk.flatMap fun e => (e.1.cs e.2).toList
theorem cellsW_len : ∀ wk : List (Sp × St), (cellsW wk).length = wk.length * 4
  | [] => rfl
  | e :: wk => by
    have h : cellsW (e :: wk) = (e.1.cs e.2).toList ++ cellsW wk := rfl
    rw [h, List.length_append, cellsW_len wk, List.length_cons]
    simp
    omega
theorem cellsW_snoc (wk : List (Sp × St)) (q : Sp) (s : St) : cellsW (wk ++ [(q, s)]) = cellsW wk ++ (q.cs s).toList := by
  unfold cellsW
  rw [List.flatMap_append]
  simp
theorem cellsW_one (wk : List (Sp × St)) : ∀ u ∈ cellsW wk, u.oneCell' = true := by
  intro u hu
  unfold cellsW at hu
  obtain ⟨e, _, he⟩ := List.mem_flatMap.1 hu
  simp at he
  rcases he with rfl | rfl | rfl | rfl <;> rfl
/-- The blocks that the search turns, and all that was there ahead of it. -/
def SqF (w0 : World) (S : Nat → Prop) (wa : Option Addr) (Ho : Nat) (b : Nat) : Prop := b < w0.heap.size ∨ S b ∨ blk wa = some b ∨ b = Ho
/-- What the search holds. -/
structure SqW (w0 w : World) (g Ho : Nat) (S : Nat → Prop) (tb : List (List ByteArray)) (wa : Option Addr) (wc : Nat) (wk : List (Sp × St)) (cnt : Int) (oa oc : Nat) (outs : List (List Int)) : Prop where
  below : Below w0.heap.size w0 w
  tab : Tab w g S tb
  hS : ∀ b, S b → w0.heap.size ≤ b ∧ b < w.heap.size
  row : w.ownsRow w0.heap.size 148 4 (.slice wa wk.length wc) wk.length (cellsW wk)
  rowS : ∀ b, blk wa = some b → ¬ S b ∧ b ≠ Ho
  ho : w.heap[Ho]? = some (.cells #[.int .i64 cnt, .slice (some ⟨oa, 0, none⟩) outs.length oc] 132 (0, 0))
  hoS : ¬ S Ho ∧ w0.heap.size ≤ Ho
  sts : ∀ e ∈ wk, StA w (SqF w0 S wa Ho) e.1 e.2
  ox : RdLX w (SqF w0 S wa Ho) (some ⟨oa, 0, none⟩) outs
  oc : outs.length ≤ oc ∧ oc ≤ 9223372036854775807
section
variable {w0 w w' : World} {g Ho : Nat} {S S' : Nat → Prop} {tb tb' : List (List ByteArray)} {wa wa' : Option Addr} {wc wc' : Nat} {wk wk' : List (Sp × St)} {cnt cnt' : Int} {oa oc oa' oc' : Nat} {outs outs' : List (List Int)}
theorem SqW.F_lt (h : SqW w0 w g Ho S tb wa wc wk cnt oa oc outs) : ∀ b, SqF w0 S wa Ho b → b < w.heap.size := by
  intro b hb
  have h0 := h.below.size
  rcases hb with hb | hb | hb | rfl
  · omega
  · exact (h.hS b hb).2
  · exact (own_blk h.row b hb).2
  · exact (Array.getElem?_eq_some_iff.1 h.ho).1
theorem SqW.step (h : SqW w0 w g Ho S tb wa wc wk cnt oa oc outs) (hb : Below w.heap.size w w') : SqW w0 w' g Ho S tb wa wc wk cnt oa oc outs :=
  ⟨h.below.trans (hb.mono h.below.size), h.tab.below hb, fun b hb' => ⟨(h.hS b hb').1, Nat.lt_of_lt_of_le (h.hS b hb').2 hb.size⟩, own_below h.row hb, h.rowS, (hb.block _ (Array.getElem?_eq_some_iff.1 h.ho).1).trans h.ho, h.hoS, fun e he => (h.sts e he).below hb, h.ox.below hb, h.oc⟩
/-- The table turns. -/
theorem SqW.mark (h : SqW w0 w g Ho S tb wa wc wk cnt oa oc outs) (ht : Tab w' g S' tb') (hk : Keeps S w w') (hs : ∀ b, S' b → S b ∨ (w.heap.size ≤ b ∧ b < w'.heap.size)) :
    SqW w0 w' g Ho S' tb' wa wc wk cnt oa oc outs ∧ Keeps (SqF w0 S wa Ho) w w' ∧ ∀ b, SqF w0 S' wa Ho b → SqF w0 S wa Ho b ∨ w.heap.size ≤ b := by
  have h0 := h.below.size
  have hz := hk.size
  have hoL := (Array.getElem?_eq_some_iff.1 h.ho).1
  have hK : Keeps (SqF w0 S wa Ho) w w' := hk.mono fun b hb => .inr (.inl hb)
  have hF : ∀ b, SqF w0 S' wa Ho b → SqF w0 S wa Ho b ∨ w.heap.size ≤ b := fun b hb => by
    rcases hb with hb | hb | hb | hb
    · exact .inl (.inl hb)
    · rcases hs b hb with h1 | h1
      · exact .inl (.inr (.inl h1))
      · exact .inr h1.1
    · exact .inl (.inr (.inr (.inl hb)))
    · exact .inl (.inr (.inr (.inr hb)))
  refine ⟨⟨Proofs.Ythlmfjoiicnomaa.Below.keeps h.below hk h0 (fun b hb => (h.hS b hb).1), ht, fun b hb => ?_, own_keeps h.row hk (fun b hb => (h.rowS b hb).1), fun b hb => ⟨fun e => ?_, (h.rowS b hb).2⟩, (hk.block _ hoL h.hoS.1).trans h.ho, ⟨fun e => ?_, h.hoS.2⟩, fun e he => (h.sts e he).change hK hF, h.ox.turn hK hF, h.oc⟩, hK, hF⟩
  · rcases hs b hb with h1 | h1
    · exact ⟨(h.hS b h1).1, Nat.lt_of_lt_of_le (h.hS b h1).2 hz⟩
    · exact ⟨by omega, h1.2⟩
  · rcases hs b e with h1 | h1
    · exact (h.rowS b hb).1 h1
    · have := (own_blk h.row b hb).2; omega
  · rcases hs Ho e with h1 | h1
    · exact h.hoS.1 h1
    · omega
/-- The list of states still to do turns. -/
theorem SqW.work (h : SqW w0 w g Ho S tb wa wc wk cnt oa oc outs) (hk : Keeps (fun b => blk wa = some b) w w') (hr : w'.ownsRow w0.heap.size 148 4 (.slice wa' wk'.length wc') wk'.length (cellsW wk')) (hn : ∀ b, blk wa' = some b → blk wa = some b ∨ w.heap.size ≤ b)
    (hst : ∀ e ∈ wk', e ∈ wk ∨ StA w' (SqF w0 S wa' Ho) e.1 e.2) :
    SqW w0 w' g Ho S tb wa' wc' wk' cnt oa oc outs ∧ Keeps (SqF w0 S wa Ho) w w' ∧ ∀ b, SqF w0 S wa' Ho b → SqF w0 S wa Ho b ∨ w.heap.size ≤ b := by
  have h0 := h.below.size
  have hz := hk.size
  have hoL := (Array.getElem?_eq_some_iff.1 h.ho).1
  have hK : Keeps (SqF w0 S wa Ho) w w' := hk.mono fun b hb => .inr (.inr (.inl hb))
  have hF : ∀ b, SqF w0 S wa' Ho b → SqF w0 S wa Ho b ∨ w.heap.size ≤ b := fun b hb => by
    rcases hb with hb | hb | hb | hb
    · exact .inl (.inl hb)
    · exact .inl (.inr (.inl hb))
    · rcases hn b hb with h1 | h1
      · exact .inl (.inr (.inr (.inl h1)))
      · exact .inr h1
    · exact .inl (.inr (.inr (.inr hb)))
  refine ⟨⟨Proofs.Ythlmfjoiicnomaa.Below.keeps h.below hk h0 (fun b hb => (own_blk h.row b hb).1), h.tab.keeps hk (fun b hb e => (h.rowS b e).1 hb), fun b hb => ⟨(h.hS b hb).1, Nat.lt_of_lt_of_le (h.hS b hb).2 hz⟩, hr, fun b hb => ?_, (hk.block _ hoL (fun e => (h.rowS Ho e).2 rfl)).trans h.ho, h.hoS, fun e he => ?_, h.ox.turn hK hF, h.oc⟩, hK, hF⟩
  · rcases hn b hb with h1 | h1
    · exact h.rowS b h1
    · exact ⟨fun e => by have := (h.hS b e).2; omega, fun e => by omega⟩
  · rcases hst e he with h1 | h1
    · exact (h.sts e h1).change hK hF
    · exact h1
/-- The block of the results turns. -/
theorem SqW.res (h : SqW w0 w g Ho S tb wa wc wk cnt oa oc outs) (hk : Keeps (· = Ho) w w') (ho : w'.heap[Ho]? = some (.cells #[.int .i64 cnt', .slice (some ⟨oa', 0, none⟩) outs'.length oc'] 132 (0, 0))) (hx : RdLX w (SqF w0 S wa Ho) (some ⟨oa', 0, none⟩) outs') (hc : outs'.length ≤ oc' ∧ oc' ≤ 9223372036854775807) :
    SqW w0 w' g Ho S tb wa wc wk cnt' oa' oc' outs' ∧ Keeps (SqF w0 S wa Ho) w w' := by
  have h0 := h.below.size
  have hz := hk.size
  have hK : Keeps (SqF w0 S wa Ho) w w' := hk.mono fun b hb => .inr (.inr (.inr hb))
  have hF : ∀ b, SqF w0 S wa Ho b → SqF w0 S wa Ho b ∨ w.heap.size ≤ b := fun b hb => .inl hb
  refine ⟨⟨Proofs.Ythlmfjoiicnomaa.Below.keeps h.below hk h0 (fun b (hb : b = Ho) => by rw [hb]; exact h.hoS.2), h.tab.keeps hk (fun b hb (e : b = Ho) => h.hoS.1 (e ▸ hb)), fun b hb => ⟨(h.hS b hb).1, Nat.lt_of_lt_of_le (h.hS b hb).2 hz⟩, own_keeps h.row hk (fun b hb e => (h.rowS b hb).2 e), h.rowS, ho, h.hoS, fun e he => (h.sts e he).change hK hF, hx.turn hK hF, hc⟩, hK⟩
end
/-- Append of one state. -/
theorem wpList_append_st {ops : Array Oper} {Q : Exit → Act → World → Prop} {a : Act} {w : World} {o : Oper} {rest : List Oper} (hgd : o.guard = none) (s x : Operand)
    (ho : o.op = .call { callee := .builtin .append, args := #[s, x], argTypes := #[150, 150] })
    (base : Nat) (v : Value) (wk : List (Sp × St)) (hs : a.eval s = v) (hown : w.ownsRow base 148 4 v wk.length (cellsW wk)) (q : Sp) (st : St) (H : Nat) (hx : a.eval x = .slice (some ⟨H, 0, none⟩) 1 1) (hu : ∀ j u, (q.cs st).toList[j]? = some u → w.cell? ⟨H, j, none⟩ = some u) (hn : wk.length ≤ 8600000000) (hbase : base ≤ w.heap.size)
    (h : ∀ v' w', w'.ownsRow base 148 4 v' (wk ++ [(q, st)]).length (cellsW (wk ++ [(q, st)])) → w.grownBy w' v.ownBlock → (v'.ownBlock = v.ownBlock ∨ v'.ownBlock = some w.heap.size) → wpList Try.prog ops Q rest (a.put o.dst v') w') : wpList Try.prog ops Q (o :: rest) a w := by
  refine wpList_plain hgd fun K hK => ?_
  obtain ⟨i, hi, hz, hs4, hb96⟩ := info_parts Try.info_st
  obtain ⟨v', w', hrun, q1, q2, _, q3⟩ := run_append_own_at (P := Try.prog) w base 150 o.type 148 i _ 4 96 Try.underlying150 hi hz hs4 hb96 rfl (by decide) v wk.length (cellsW wk) hown ⟨H, 0, none⟩ 1 1 (q.cs st).toList (by simp) (fun j u hj => by rw [Addr.add_lit, Nat.zero_add]; exact hu j u hj) (by simp [Value.oneCell']) (by unfold maxLen; omega) (by omega) hbase
  unfold Oper.wp execOp
  simp only [ho, resolve, invoke, builtin, Sem.run_bind, Sem.run_pure, Result.andThen_ok, List.map_toArray, List.map_cons, List.map_nil, hs, hx, hrun]
  refine hK _ _ (h v' w' ?_ q2 q3)
  rw [cellsW_snoc, List.length_append]
  exact q1
theorem own_pop4 {w : World} {base : Nat} {a : Option Addr} {c : Nat} {wk : List (Sp × St)} {q : Sp} {s : St} (h : w.ownsRow base 148 4 (.slice a (wk ++ [(q, s)]).length c) (wk ++ [(q, s)]).length (cellsW (wk ++ [(q, s)]))) : w.ownsRow base 148 4 (.slice a wk.length c) wk.length (cellsW wk) := by
  refine ⟨cellsW_len wk, ?_⟩
  have hl : (wk ++ [(q, s)]).length = wk.length + 1 := by simp
  rw [hl] at h
  rcases h.2 with ⟨_, h0⟩ | ⟨g, cap', cur, hv, hb, hg, hn, hc, hs, ht⟩
  · omega
  · simp only [Value.slice.injEq, true_and] at hv
    obtain ⟨rfl, rfl⟩ := hv
    refine .inr ⟨g, c, cur, rfl, hb, hg, by omega, hc, hs, ?_⟩
    have h2 := congrArg (List.take (wk.length * 4)) ht
    rw [List.take_take, Nat.min_eq_left (by omega), cellsW_snoc, List.take_append_of_le_length (Nat.le_of_eq (cellsW_len wk).symm), List.take_of_length_le (Nat.le_of_eq (cellsW_len wk))] at h2
    exact h2
/-- The last state still to do, in its cells. -/
theorem own_last4 {w : World} {base : Nat} {a : Option Addr} {c : Nat} {wk : List (Sp × St)} {q : Sp} {s : St} (h : w.ownsRow base 148 4 (.slice a (wk ++ [(q, s)]).length c) (wk ++ [(q, s)]).length (cellsW (wk ++ [(q, s)]))) : ∃ g, a = some ⟨g, 0, none⟩ ∧ g < w.heap.size ∧ ∀ j u, (q.cs s).toList[j]? = some u → w.cell? ⟨g, wk.length * 4 + j, none⟩ = some u := by
  obtain ⟨g, rfl, _, hlt⟩ := own_some h (by simp)
  refine ⟨g, rfl, hlt, fun j u hj => ?_⟩
  have hj4 : j < 4 := by have := (List.getElem?_eq_some_iff.1 hj).1; simpa using this
  have hcells := h.cells (g := g) rfl (wk.length * 4 + j) u (by
    rw [cellsW_snoc, List.getElem?_append_right (by rw [cellsW_len]; omega), cellsW_len, show wk.length * 4 + j - wk.length * 4 = j by omega]
    exact hj)
  rw [Addr.add_lit, Nat.zero_add] at hcells
  exact hcells
/-- The last state still to do is taken. -/
theorem SqW.pop {w0 w : World} {g Ho : Nat} {S : Nat → Prop} {tb : List (List ByteArray)} {wa : Option Addr} {wc : Nat} {wk : List (Sp × St)} {cnt : Int} {oa oc : Nat} {outs : List (List Int)} {q : Sp} {s : St} (h : SqW w0 w g Ho S tb wa wc (wk ++ [(q, s)]) cnt oa oc outs) : SqW w0 w g Ho S tb wa wc wk cnt oa oc outs ∧ StA w (SqF w0 S wa Ho) q s :=
  ⟨⟨h.below, h.tab, h.hS, own_pop4 h.row, h.rowS, h.ho, h.hoS, fun e he => h.sts e (List.mem_append.2 (.inl he)), h.ox, h.oc⟩, h.sts (q, s) (List.mem_append.2 (.inr (List.mem_singleton_self _)))⟩
theorem BoxA.turn {w w' : World} {S S' : Nat → Prop} {H : Nat} {cs : Array Value} (h : BoxA w S H cs) (hk : Keeps S w w') (hs : ∀ b, S' b → S b ∨ w.heap.size ≤ b) : BoxA w' S' H cs := by
  refine ⟨(hk.block _ h.lt h.2).trans h.1, fun e => ?_⟩
  rcases hs H e with h1 | h1
  · exact h.2 h1
  · have := h.lt; omega
/-- The loop over the threads of the state at hand: k of them have been tried. -/
structure SqL (w0 wr : World) (p : Prg) (g Ho H : Nat) (S : Nat → Prop) (tb : List (List ByteArray)) (wa : Option Addr) (wc : Nat) (wk : List (Sp × St)) (cnt : Int) (oa oc : Nat) (outs : List (List Int)) (dn : List St) (q : Sp) (s : St) (k W : Nat) : Prop where
  sq : SqW w0 wr g Ho S tb wa wc wk cnt oa oc outs
  kk : SeqK p tb (wk.map Prod.snd) dn outs.length (· = s)
  bx : BoxA wr (SqF w0 S wa Ho) H (q.cs s)
  st : StA wr (SqF w0 S wa Ho) q s
  fd : foundT tb (keyS s) = true
  ch : ∀ t, t < k → goes p s t = true → foundT tb (keyS (do3 p s t)) = true
  wt : wt p (wk.map Prod.snd) ≤ W + k * (4 ^ left4 p s / 4)
section
variable {w0 wr w' : World} {p : Prg} {g Ho H : Nat} {S S8 : Nat → Prop} {tb : List (List ByteArray)} {wa wa' : Option Addr} {wc wc' : Nat} {wk : List (Sp × St)} {cnt : Int} {oa oc : Nat} {outs : List (List Int)} {dn : List St} {q q' : Sp} {s c : St} {k W : Nat}
theorem SqL.step (h : SqL w0 wr p g Ho H S tb wa wc wk cnt oa oc outs dn q s k W) (hb : Below wr.heap.size wr w') : SqL w0 w' p g Ho H S tb wa wc wk cnt oa oc outs dn q s k W :=
  ⟨h.sq.step hb, h.kk, h.bx.below hb, h.st.below hb, h.fd, h.ch, h.wt⟩
theorem SqL.next (h : SqL w0 wr p g Ho H S tb wa wc wk cnt oa oc outs dn q s k W) (hk : goes p s k = true → foundT tb (keyS (do3 p s k)) = true) : SqL w0 wr p g Ho H S tb wa wc wk cnt oa oc outs dn q s (k + 1) W :=
  ⟨h.sq, h.kk, h.bx, h.st, h.fd, fun t ht hg => by
    by_cases e : t = k
    · subst e; exact hk hg
    · exact h.ch t (by omega) hg, by have := h.wt; rw [Nat.add_mul]; omega⟩
/-- A child is marked, and put behind what is to do. -/
theorem SqL.push (h : SqL w0 wr p g Ho H S tb wa wc wk cnt oa oc outs dn q s k W) (hv : Shape p) (hce : c = do3 p s k) (hg : G3 p s) (hgo : goes p s k = true) (hn : foundT tb (keyS c) = false) {w8 w9 : World} (ht : Tab w8 g S8 (markT tb (keyS c))) (hk : Keeps S wr w8) (hs8 : ∀ b, S8 b → S b ∨ (wr.heap.size ≤ b ∧ b < w8.heap.size))
    (hc : StA wr (SqF w0 S wa Ho) q' c) (hb9 : Below w8.heap.size w8 w9) (hr : w'.ownsRow w0.heap.size 148 4 (.slice wa' (wk ++ [(q', c)]).length wc') (wk ++ [(q', c)]).length (cellsW (wk ++ [(q', c)]))) (hgr : w9.grownBy w' (blk wa)) (hat : blk wa' = blk wa ∨ blk wa' = some w9.heap.size) :
    SqL w0 w' p g Ho H S8 (markT tb (keyS c)) wa' wc' (wk ++ [(q', c)]) cnt oa oc outs dn q s (k + 1) W := by
  subst hce
  obtain ⟨m1, m2, m3⟩ := h.sq.mark ht hk hs8
  have b8 := h.bx.turn m2 m3
  have s8 := h.st.change m2 m3
  have c8 := hc.change m2 m3
  have sq9 := m1.step hb9
  have hkw : Keeps (fun b => blk wa = some b) w9 w' := Keeps.of_grown hgr fun b hb => hb
  have hnw : ∀ b, blk wa' = some b → blk wa = some b ∨ w9.heap.size ≤ b := fun b hb => by
    rcases hat with e | e
    · exact .inl (by rw [← e]; exact hb)
    · rw [e] at hb; cases hb; exact .inr (Nat.le_refl _)
  have hK : Keeps (SqF w0 S8 wa Ho) w9 w' := hkw.mono fun b hb => .inr (.inr (.inl hb))
  have hF : ∀ b, SqF w0 S8 wa' Ho b → SqF w0 S8 wa Ho b ∨ w9.heap.size ≤ b := fun b hb => by
    rcases hb with hb | hb | hb | hb
    · exact .inl (.inl hb)
    · exact .inl (.inr (.inl hb))
    · rcases hnw b hb with h1 | h1
      · exact .inl (.inr (.inr (.inl h1)))
      · exact .inr h1
    · exact .inl (.inr (.inr (.inr hb)))
  obtain ⟨n1, n2, n3⟩ := sq9.work hkw hr hnw fun e he => by
    rcases List.mem_append.1 he with he | he
    · exact .inl he
    · rw [List.mem_singleton] at he
      subst he
      exact .inr ((c8.below hb9).change hK hF)
  obtain ⟨k1, k2, k3, k4, k5⟩ := h.kk.push hv hg h.fd hgo hn
  refine ⟨n1, by rw [List.map_append]; exact k1, (b8.below hb9).turn hK hF, (s8.below hb9).change hK hF, k2, fun t ht hg => ?_, ?_⟩
  · by_cases e : t = k
    · subst e; exact k3
    · exact k4 _ (h.ch t (by omega) hg)
  · have h1 := wt_child (left_do3 hg.toGood hv hgo)
    have h2 := h.wt
    rw [List.map_append, List.map_cons, List.map_nil, wt_snoc, Nat.add_mul]
    show Proofs.Ythlmfjoiicnomaa.wt p (wk.map Prod.snd) + 4 ^ left4 p (do3 p s k) ≤ _
    omega
end
/-- What l3Seq gives. -/
def SeqPost (w : World) (p : Prg) (e : Ending) (w' : World) : Prop :=
  ∃ (cnt : Int) (oa oc : Nat) (outs : List (List Int)), e = .returned (.agg #[.int .i64 cnt, .slice (some ⟨oa, 0, none⟩) outs.length oc]) ∧ RdLX w' (fun b => b < w.heap.size) (some ⟨oa, 0, none⟩) outs ∧ 0 < outs.length ∧ outs.length ≤ 16777216 ∧ (∀ xs ∈ outs, xs.length = p.length * 3 + 3) ∧ Below w.heap.size w w'
end Go.Proofs.Ythlmfjoiicnomaa
