/-
  PROVED HERE: words for a table of texts (a slice of slices of strings) whose blocks are known: what a change of one row does; what spec.l3Hash, l3Found and l3Mark do. what spec.l3Mark and l3Less do. what spec.l3Less does. CONDITIONS: as each theorem states.
-/
import Derived.Test.YtbncmeggnhggkaaKey
namespace Go.Proofs.Ytbncmeggnhggkaa
open Go.RowKit
set_option linter.unusedVariables false
set_option linter.unusedSimpArgs false

theorem Try.info_txt : (Try.prog.info? 9).map (fun i => (i.zero, i.size, i.bytes)) = some (some (.string ⟨#[]⟩), 1, 16) := by kernel_rfl
abbrev strs (xs : List ByteArray) : List Value := xs.map Value.string
/-- A row of texts of the call's own. -/
def OwTx (w : World) (a : Option Addr) (cap : Nat) (xs : List ByteArray) : Prop := w.ownsRow 0 9 1 (.slice a xs.length cap) xs.length (strs xs)
def rowsT (rs : List (Option Addr × Nat)) (p : List (List ByteArray)) : List Value := List.zipWith (fun r xs => Value.slice r.1 xs.length r.2) rs p
theorem rowsT_get {rs : List (Option Addr × Nat)} {p : List (List ByteArray)} {k : Nat} {r : Option Addr × Nat} {xs : List ByteArray} (h1 : rs[k]? = some r) (h2 : p[k]? = some xs) : (rowsT rs p)[k]? = some (.slice r.1 xs.length r.2) := by
  unfold rowsT
  simp [List.getElem?_zipWith, h1, h2]
theorem rowsT_set {rs : List (Option Addr × Nat)} {p : List (List ByteArray)} (hl : rs.length = p.length) (i : Nat) (r : Option Addr × Nat) (ys : List ByteArray) : (rowsT rs p).set i (.slice r.1 ys.length r.2) = rowsT (rs.set i r) (p.set i ys) := by
  apply List.ext_getElem?
  intro j
  unfold rowsT
  rw [List.getElem?_set]
  by_cases hij : i = j
  · subst hij
    by_cases hi : i < p.length
    · simp [hi, hl]
    · simp [hi, hl]
  · rw [if_neg hij]
    simp only [List.getElem?_zipWith, List.getElem?_set, if_neg hij]
/-- The table p, from block g on; its rows lie in blocks of S. -/
def Tab (w : World) (g : Nat) (S : Nat → Prop) (p : List (List ByteArray)) : Prop :=
  ∃ (rs : List (Option Addr × Nat)) (cap : Nat), rs.length = p.length ∧ w.ownsRow 0 139 1 (.slice (some ⟨g, 0, none⟩) p.length cap) p.length (rowsT rs p) ∧ (∀ (k : Nat) r xs, rs[k]? = some r → p[k]? = some xs → OwTx w r.1 r.2 xs) ∧
    (∀ (i k : Nat) r s b, rs[i]? = some r → rs[k]? = some s → blk r.1 = some b → blk s.1 = some b → i = k) ∧ (∀ (k : Nat) r b, rs[k]? = some r → blk r.1 = some b → S b) ∧ S g
theorem Tab.keeps {w w' : World} {g : Nat} {S R : Nat → Prop} {p : List (List ByteArray)} (h : Tab w g S p) (hk : Keeps R w w') (hR : ∀ b, S b → ¬ R b) : Tab w' g S p := by
  obtain ⟨rs, cap, hl, ho, hi, hd, hS, hg⟩ := h
  exact ⟨rs, cap, hl, own_keeps ho hk (fun b hb => by simp only [blk, Option.some.injEq] at hb; rw [← hb]; exact hR g hg), fun k r xs h1 h2 => own_keeps (hi k r xs h1 h2) hk (fun b hb => hR b (hS k r b h1 hb)), hd, hS, hg⟩
theorem Tab.below {w w' : World} {g : Nat} {S : Nat → Prop} {p : List (List ByteArray)} (h : Tab w g S p) (hb : Below w.heap.size w w') : Tab w' g S p :=
  h.keeps (R := fun _ => False) (Keeps.of_below hb) fun _ _ e => e
theorem Tab.lt {w : World} {g : Nat} {S : Nat → Prop} {p : List (List ByteArray)} (h : Tab w g S p) : g < w.heap.size := by
  obtain ⟨rs, cap, hl, ho, _⟩ := h
  exact (own_blk ho g rfl).2
/-- One row of the table: where it lies; and what a store of a row makes of the table. -/
theorem Tab.row {w : World} {g : Nat} {S : Nat → Prop} {p : List (List ByteArray)} (h : Tab w g S p) {i : Nat} {xs : List ByteArray} (hx : p[i]? = some xs) :
    ∃ r c, w.cell? ⟨g, i, none⟩ = some (.slice r xs.length c) ∧ OwTx w r c xs ∧ (∀ b, blk r = some b → S b ∧ b ≠ g) ∧
      ∀ (w' : World) (v' : Value) (ys : List ByteArray), Keeps (fun b => blk r = some b) w w' → w'.ownsRow 0 9 1 v' ys.length (strs ys) → (v'.ownBlock = blk r ∨ ∀ b, v'.ownBlock = some b → ∀ k, S k → k < w.heap.size → b ≠ k) →
        w'.cell? ⟨g, i, none⟩ = some (.slice r xs.length c) ∧ w'.frozen? ⟨g, i, none⟩ = false ∧ Tab (w'.setCell ⟨g, i, none⟩ v') g (fun b => S b ∨ v'.ownBlock = some b) (p.set i ys) := by
  obtain ⟨rs, cap, hl, ho, hi, hd, hS, hg⟩ := h
  have hip := (List.getElem?_eq_some_iff.1 hx).1
  have hgs := (own_blk ho g rfl).2
  obtain ⟨r, hr⟩ : ∃ r, rs[i]? = some r := ⟨_, List.getElem?_eq_getElem (by omega)⟩
  have hrow := hi i r xs hr hx
  have hne : ∀ (k : Nat) s ys, rs[k]? = some s → p[k]? = some ys → ∀ b, blk s.1 = some b → b ≠ g := fun k s ys hs hy b hb e => own_apart (hi k s ys hs hy) ho (by decide) b hb (by rw [e]; rfl)
  have hcell : w.cell? ⟨g, i, none⟩ = some (.slice r.1 xs.length r.2) := (ho.cellAt i (by omega)).trans (rowsT_get hr hx)
  refine ⟨r.1, r.2, hcell, hrow, fun b hb => ⟨hS i r b hr hb, hne i r xs hr hx b hb⟩, ?_⟩
  intro w' v' ys hk hown hblk
  have hSg : ¬ blk r.1 = some g := fun hs => hne i r xs hr hx g hs rfl
  have ho' := own_keeps ho hk (fun b hb => by cases hb; exact hSg)
  obtain ⟨a', c', rfl, hab⟩ := own_shape hown
  rw [ownBlock_slice] at hblk ⊢
  have hag : ∀ b, blk a' = some b → b ≠ g := fun b hb e => by
    rcases hblk with hq | hq
    · exact hne i r xs hr hx b (by rw [← hq]; exact hb) e
    · exact hq b hb g hg hgs e
  have kset : Keeps (· = g) w' (w'.setCell ⟨g, i, none⟩ (.slice a' ys.length c')) := Keeps.setCell w' ⟨g, i, none⟩ _
  have hget : ∀ (k : Nat) s zs, (rs.set i (a', c'))[k]? = some s → (p.set i ys)[k]? = some zs → (k = i ∧ s = (a', c') ∧ zs = ys) ∨ (k ≠ i ∧ rs[k]? = some s ∧ p[k]? = some zs) := by
    intro k s zs hs hz
    by_cases hki : i = k
    · subst hki
      rw [List.getElem?_set_self (by omega)] at hs
      rw [List.getElem?_set_self hip] at hz
      cases hs; cases hz
      exact .inl ⟨rfl, rfl, rfl⟩
    · rw [List.getElem?_set_ne hki] at hs
      rw [List.getElem?_set_ne hki] at hz
      exact .inr ⟨fun e => hki e.symm, hs, hz⟩
  have hlen : (rs.set i (a', c')).length = (p.set i ys).length := by simp [hl]
  have get1 : ∀ (k : Nat) s, (rs.set i (a', c'))[k]? = some s → (k = i ∧ s = (a', c')) ∨ (k ≠ i ∧ rs[k]? = some s) := fun k s hs => by
    rcases hget k s _ hs (List.getElem?_eq_getElem (by rw [← hlen]; exact (List.getElem?_eq_some_iff.1 hs).1)) with ⟨q1, q2, _⟩ | ⟨q1, q2, _⟩
    · exact .inl ⟨q1, q2⟩
    · exact .inr ⟨q1, q2⟩
  have rlt : ∀ (k : Nat) s b, rs[k]? = some s → blk s.1 = some b → b < w.heap.size := fun k s b hs hb =>
    (own_blk (hi k s _ hs (List.getElem?_eq_getElem (by rw [← hl]; exact (List.getElem?_eq_some_iff.1 hs).1))) b hb).2
  have new : ∀ (k : Nat) s b, k ≠ i → rs[k]? = some s → blk s.1 = some b → blk a' = some b → False := fun k s b hki hs hb hb' => by
    rcases hblk with hq | hq
    · exact hki (hd k i s r b hs hr hb (by rw [← hq]; exact hb'))
    · exact hq b hb' b (hS k s b hs hb) (rlt k s b hs hb) rfl
  refine ⟨(ho'.cellAt i (by omega)).trans (rowsT_get hr hx), ho'.frozenAt i, rs.set i (a', c'), cap, hlen, ?_, ?_, ?_, ?_, .inl hg⟩
  · have := (ho'.stored i (.slice a' ys.length c')).1
    rw [rowsT_set hl i (a', c') ys] at this
    simpa using this
  · intro k s zs hs hz
    rcases hget k s zs hs hz with ⟨_, rfl, rfl⟩ | ⟨hki, q2, q3⟩
    · exact own_keeps hown kset fun b hb e => hag b hb e
    · have hr' := hi k s zs q2 q3
      refine own_keeps (own_keeps hr' hk fun b hb hs' => ?_) kset fun b hb e => hne k s zs q2 q3 b hb e
      exact hki (hd k i s r b q2 hr hb hs')
  · intro j k s t b hs ht hbs hbt
    rcases get1 j s hs with ⟨q1, rfl⟩ | ⟨q1, q2⟩ <;> rcases get1 k t ht with ⟨q3, rfl⟩ | ⟨q3, q4⟩
    · omega
    · exact absurd hbs (fun hb => new k t b q3 q4 hbt hb)
    · exact absurd hbt (fun hb => new j s b q1 q2 hbs hb)
    · exact hd j k s t b q2 q4 hbs hbt
  · intro k s b hs hb
    rcases get1 k s hs with ⟨_, rfl⟩ | ⟨_, q2⟩
    · exact .inr hb
    · exact .inl (hS k s b q2 hb)
/-- The number for a text. -/
def hashTo (s : ByteArray) : Nat → Nat
  | 0 => 0
  | k + 1 => (hashTo s k * 31 + (if h : k < s.size then s[k].toNat else 0)) % 4096
def hashS (s : ByteArray) : Nat := hashTo s s.size
theorem hashTo_lt (s : ByteArray) (k : Nat) : hashTo s k < 4096 := by
  cases k with
  | zero => show 0 < 4096; decide
  | succ k => exact Nat.mod_lt _ (by decide)
set_option maxHeartbeats 1600000 in
theorem l3Hash_c (w : World) (s : ByteArray) (hs : s.size ≤ 1000000) :
    Calls Try.prog 101 #[.string s] w fun e w' => e = .returned (.int .i64 (hashS s : Nat)) ∧ w' = w := by
  have HST := hid (fun k (hk : k < s.size) => show ((hashTo s (k + 1) : Nat) : Int) = ((hashTo s k : Nat) * 31 + (s[k].toNat : Nat)) % 4096 from by
    show ((((hashTo s k * 31 + (if h : k < s.size then s[k].toNat else 0)) % 4096 : Nat)) : Int) = _
    rw [dif_pos hk]
    omega)
  have HLT := hid (hashTo_lt s)
  unfold hashS
  go_enter Try.func101, Try.ntmps101
  go_wp2_with fail
  go_loop [3, 4] (fun n i => ∃ k : Nat, k ≤ s.size ∧ i = .int .i64 k ∧ n = .int .i64 (hashTo s k : Nat)) (fun n i => s.size - (intOf i).toNat)
  case atStart => exact ⟨0, Nat.zero_le _, rfl, rfl⟩
  case round =>
    obtain ⟨k, hk, rfl, rfl⟩ := hrel
    have hh := HLT.out k
    by_cases hlt : k < s.size
    · have HS := hid (HST.out k hlt)
      have hb255 : (s[k].toNat : Int) ≤ 255 := by have := s[k].toNat_lt; omega
      obtain ⟨h, hhe⟩ : ∃ h, h = hashTo s k := ⟨_, rfl⟩
      rw [← hhe] at hh HS ⊢
      clear hhe
      go_wp2_with fail
      go_round
      case rel => exact ⟨k + 1, by omega, by go_num, by rw [HS.out]⟩
      case measure => simp [intOf]; omega
    · have hk' : k = s.size := by omega
      go_wp2_with fail
      go_ret
      exact ⟨rfl, rfl⟩
def hasT (xs : List ByteArray) (t : ByteArray) : Bool := xs.any fun x => x.data == t.data
def foundT (p : List (List ByteArray)) (t : ByteArray) : Bool := hasT (p.getD (hashS t) []) t
def markT (p : List (List ByteArray)) (t : ByteArray) : List (List ByteArray) := p.set (hashS t) (p.getD (hashS t) [] ++ [t])
theorem row_get {p : List (List ByteArray)} {k : Nat} (h : k < p.length) : p[k]? = some (p.getD k []) := by
  rw [List.getD_eq_getElem?_getD, List.getElem?_eq_getElem h]
  rfl
theorem ne_txt {a b : ByteArray} (h : a ≠ b) : (a.toList == b.toList) = false := by
  cases hb : (a.toList == b.toList) with
  | false => rfl
  | true =>
    exfalso
    have e := eq_of_beq hb
    rw [ByteArray.toList_eq, ByteArray.toList_eq] at e
    exact h (ByteArray.ext (Array.toList_inj.1 e))
theorem OwTx.at {w : World} {a : Option Addr} {c : Nat} {xs : List ByteArray} (h : OwTx w a c xs) (k : Nat) (hk : k < xs.length) : ∃ b, a = some ⟨b, 0, none⟩ ∧ w.cell? ⟨b, k, none⟩ = some (.string xs[k]) := by
  obtain ⟨b, hb, _, _⟩ := own_some h (by omega)
  subst hb
  refine ⟨b, rfl, ?_⟩
  rw [h.cellAt k (by omega)]
  simp

set_option maxRecDepth 100000 in
set_option maxHeartbeats 1600000 in
theorem l3Found_c (w : World) (g : Nat) (S : Nat → Prop) (p : List (List ByteArray)) (t : ByteArray) (h : Tab w g S p) (hp : p.length = 4096) (ht : t.size ≤ 1000000) (hn : (p.getD (hashS t) []).length ≤ 8000000000000) :
    Calls Try.prog 83 #[.slice (some ⟨g, 0, none⟩) 4096 4096, .string t] w fun e w' => e = .returned (.bool (foundT p t)) ∧ w' = w := by
  have hlt := hashTo_lt t t.size
  obtain ⟨r, c, hc, hrow, _⟩ := h.row (row_get (p := p) (k := hashS t) (by rw [hp]; exact hlt))
  have HH := hid (fun w => l3Hash_c w t ht)
  have HROW := hid hrow
  unfold foundT
  obtain ⟨xs, hxs⟩ : ∃ xs, xs = p.getD (hashS t) [] := ⟨_, rfl⟩
  rw [← hxs] at hc HROW hn ⊢
  have HIN := hid (fun k (hk : xs[k]? = some t) => show hasT xs t = true from List.any_eq_true.2 ⟨t, List.mem_of_getElem? hk, by simp⟩)
  have HOUT := hid (fun (hk : ∀ j, xs[j]? ≠ some t) => show hasT xs t = false from by
    cases hb : hasT xs t with
    | false => rfl
    | true =>
      obtain ⟨x, hx, he⟩ := List.any_eq_true.1 hb
      obtain ⟨i, hi⟩ := List.mem_iff_getElem?.1 hx
      have he : x = t := ByteArray.ext (eq_of_beq he)
      subst he
      exact absurd hi (hk i))
  obtain ⟨B, hB⟩ : ∃ B, B = hasT xs t := ⟨_, rfl⟩
  rw [← hB] at HIN HOUT ⊢
  obtain ⟨n, hne⟩ : ∃ n, n = xs.length := ⟨_, rfl⟩
  have HN := hid hne
  rw [← hne] at hc hn
  change hashS t < 4096 at hlt
  obtain ⟨q, hq⟩ : ∃ q, q = hashS t := ⟨_, rfl⟩
  rw [← hq] at hc HH hlt
  have hqi : (q : Int) < 4096 := by omega
  clear h hp hxs hB hne hq hrow
  go_enter Try.func83, Try.ntmps83
  go_wp2_with fail
  refine (HH.out _).mono ?_
  rintro e w1 ⟨rfl, rfl⟩
  go_wp2_with fail
  go_loop [6] (fun i => ∃ k : Nat, k ≤ n ∧ i = .int .i64 k ∧ Hid (∀ j, j < k → xs[j]? ≠ some t)) (fun i => n - (intOf i).toNat)
  case atStart => exact ⟨0, Nat.zero_le _, rfl, hid (fun j hj => by omega)⟩
  case round =>
    obtain ⟨k, hk, rfl, HK⟩ := hrel
    by_cases hlk : k < n
    · obtain ⟨b, hab, hcx⟩ := HROW.out.at k (by rw [← HN.out]; exact hlk)
      subst hab
      obtain ⟨x, hx⟩ : ∃ x, x = xs[k]'(by rw [← HN.out]; exact hlk) := ⟨_, rfl⟩
      rw [← hx] at hcx
      have HX := hid (show xs[k]? = some x by rw [hx]; exact List.getElem?_eq_getElem _)
      clear hx
      by_cases hxt : x = t
      · have HF := hid (HIN.out k (by rw [HX.out, hxt]))
        subst hxt
        go_wp2_with fail
        go_ret
        exact ⟨ret_bool HF.out.symm, rfl⟩
      · have e1 := ne_txt hxt
        have HK2 := hid (show ∀ j, j < k + 1 → xs[j]? ≠ some t from fun j hj e => by
          by_cases hjk : j = k
          · subst hjk; rw [HX.out] at e; exact hxt (Option.some.inj e)
          · exact HK.out j (by omega) e)
        go_wp2_with fail
        go_round
        case rel => exact ⟨k + 1, by omega, by go_num, HK2⟩
        case measure => simp [intOf]; omega
    · have HF := hid (HOUT.out fun j e => by
        have := (List.getElem?_eq_some_iff.1 e).1
        have := HN.out
        exact HK.out j (by omega) e)
      go_wp2_with fail
      go_ret
      exact ⟨ret_bool HF.out.symm, rfl⟩
/-- Append of one text. -/
theorem run_append_txt {w : World} (ty : TypeId) (v : Value) (n : Nat) (xs : List ByteArray) (hown : w.ownsRow 0 9 1 v n (strs xs)) (ad : Addr) (t : ByteArray) (hu : w.cell? ad = some (.string t)) (hn : n + 1 ≤ 8000000000001) :
    ∃ v' w', (Builtin.append_ #[139, 139] ty #[v, .slice (some ad) 1 1]).run Try.prog w = .ok v' w' ∧ w'.ownsRow 0 9 1 v' (n + 1) (strs (xs ++ [t])) ∧ w.grownBy w' v.ownBlock ∧ (v'.ownBlock = v.ownBlock ∨ v'.ownBlock = some w.heap.size) := by
  obtain ⟨i, g2, gz, g3, g4⟩ := info_parts Try.info_txt
  obtain ⟨v', w', hrun, q1, q2, q3, q4⟩ := run_append_own_at (P := Try.prog) w 0 139 ty 9 i _ 1 16 Try.underlying139 g2 gz g3 g4 rfl (by omega) v n (strs xs) hown ad 1 1 [.string t] rfl (fun j u hj => by
    match j, hj with
    | 0, hj => simp at hj; subst hj; simpa [Addr.add] using hu) (by simp [Value.oneCell']) (by unfold maxLen; omega) (by omega) (Nat.zero_le _)
  have e : strs (xs ++ [t]) = strs xs ++ [.string t] := by simp
  exact ⟨v', w', hrun, by rw [e]; exact q1, q2, by first | exact q3 | exact q4⟩
end Go.Proofs.Ytbncmeggnhggkaa
namespace Go.Proofs.Ytbncmeggnhggkaa
open Go.RowKit
set_option linter.unusedVariables false
set_option linter.unusedSimpArgs false

theorem wpList_append_txt {ops : Array Oper} {Q : Exit → Act → World → Prop} {a : Act} {w : World} {o : Oper} {rest : List Oper} (hgd : o.guard = none) (s x : Operand)
    (ho : o.op = .call { callee := .builtin .append, args := #[s, x], argTypes := #[139, 139] })
    (v : Value) (n : Nat) (xs : List ByteArray) (hs : a.eval s = v) (hown : w.ownsRow 0 9 1 v n (strs xs)) (ad : Addr) (t : ByteArray) (hx : a.eval x = .slice (some ad) 1 1) (hu : w.cell? ad = some (.string t)) (hn : n + 1 ≤ 8000000000001)
    (h : ∀ v' w', w'.ownsRow 0 9 1 v' (n + 1) (strs (xs ++ [t])) → w.grownBy w' v.ownBlock → (v'.ownBlock = v.ownBlock ∨ v'.ownBlock = some w.heap.size) → wpList Try.prog ops Q rest (a.put o.dst v') w') : wpList Try.prog ops Q (o :: rest) a w := by
  refine wpList_plain hgd fun K hK => ?_
  obtain ⟨v', w', hrun, q1, q2, q3⟩ := run_append_txt o.type v n xs hown ad t hu hn
  unfold Oper.wp execOp
  simp only [ho, resolve, invoke, builtin, Sem.run_bind, Sem.run_pure, Result.andThen_ok, List.map_toArray, List.map_cons, List.map_nil, hs, hx, hrun]
  exact hK _ _ (h v' w' q1 q2 q3)
/-- What l3Mark leaves. -/
def Marked (w w' : World) (g : Nat) (S : Nat → Prop) (p : List (List ByteArray)) : Prop :=
  ∃ S' : Nat → Prop, Tab w' g S' p ∧ Keeps S w w' ∧ ∀ b, S' b → S b ∨ (w.heap.size ≤ b ∧ b < w'.heap.size)

set_option maxRecDepth 100000 in
set_option maxHeartbeats 1600000 in
theorem l3Mark_c (w : World) (g : Nat) (S : Nat → Prop) (p : List (List ByteArray)) (t : ByteArray) (h : Tab w g S p) (hp : p.length = 4096) (ht : t.size ≤ 1000000) (hn : (p.getD (hashS t) []).length ≤ 8000000000000) :
    Calls Try.prog 84 #[.slice (some ⟨g, 0, none⟩) 4096 4096, .string t] w fun e w' => e = .returned (.tuple #[]) ∧ Marked w w' g S (markT p t) := by
  have hlt := hashTo_lt t t.size
  obtain ⟨r, c, hc, hrow, hrb, hstep⟩ := h.row (row_get (p := p) (k := hashS t) (by rw [hp]; exact hlt))
  have HH := hid (fun w => l3Hash_c w t ht)
  have HG := hid h.lt
  have HSG := hid (show S g from by obtain ⟨_, _, _, _, _, _, _, hg⟩ := h; exact hg)
  unfold markT
  obtain ⟨xs, hxs⟩ : ∃ xs, xs = p.getD (hashS t) [] := ⟨_, rfl⟩
  rw [← hxs] at hc hrow hn hstep ⊢
  obtain ⟨n, hne⟩ : ∃ n, n = xs.length := ⟨_, rfl⟩
  have HROW := hid (show w.ownsRow 0 9 1 (.slice r n c) n (strs xs) from by rw [hne]; exact hrow)
  have HN := hid hne
  have HST := hid hstep
  have HRB := hid hrb
  rw [← hne] at hc hn
  change hashS t < 4096 at hlt
  obtain ⟨q, hq⟩ : ∃ q, q = hashS t := ⟨_, rfl⟩
  rw [← hq] at hc HH hlt HST ⊢
  have hqi : (q : Int) < 4096 := by omega
  rw [← hne] at HST
  clear h hp hxs hne hq hrow hstep hrb
  go_enter Try.func84, Try.ntmps84
  go_wp2_with fail
  refine (HH.out _).mono ?_
  rintro e w1 ⟨rfl, rfl⟩
  have HO := hid (own_below HROW.out ((Below.refl _ _).alloc (Nat.le_refl _) (.cells #[.string t] 9)))
  go_wp2_with (at_builtin; refine wpList_append_txt rfl (.tmp 12) (.tmp 14) rfl _ _ _ rfl HO.out _ t rfl (by simp) (by omega) ?_)
  intro v5 w5 hown5 hgrow5 hat5
  rw [ownBlock_slice] at hgrow5 hat5
  obtain ⟨hc5, hf5, htab⟩ := HST.out w5 v5 (xs ++ [t]) ((Keeps.of_below ((Below.refl _ _).alloc (Nat.le_refl _) (.cells #[.string t] 9))).trans (Keeps.of_grown hgrow5 (fun k hk => hk))) (by rw [List.length_append, List.length_singleton, ← HN.out]; exact own_cast hown5 rfl (by simp))
    (hat5.imp id fun e b hb k hk hkl he => by rw [e] at hb; have := Option.some.inj hb; omega)
  have HK5 := hid (show Keeps S w1 w5 from ((Keeps.of_below ((Below.refl _ _).alloc (Nat.le_refl _) (.cells #[.string t] 9))).trans (Keeps.of_grown hgrow5 (fun k hk => (HRB.out k hk).1))))
  have HAT := hid (show ∀ b, v5.ownBlock = some b → S b ∨ (w1.heap.size ≤ b ∧ b < w5.heap.size) from fun b hb => by
    have hb9 : b < w5.heap.size := by
      obtain ⟨a9, c9, rfl, hbb⟩ := own_shape hown5
      rw [ownBlock_slice] at hb
      exact (hbb b hb).2
    rcases hat5 with e | e
    · rw [e] at hb; exact .inl (HRB.out b hb).1
    · rw [e] at hb; have := Option.some.inj hb; exact .inr (by omega))
  have HT := hid htab
  obtain ⟨a5, c5, rfl, _⟩ := own_shape hown5
  clear htab hown5 hgrow5 hat5
  go_wp2_with fail
  go_end0
  refine ⟨rfl, _, HT.out, HK5.out.trans ((Keeps.setCell w5 ⟨g, q, none⟩ _).mono fun k (e : k = g) => by rw [e]; exact HSG.out), fun b hb => ?_⟩
  rcases hb with hb | hb
  · exact .inl hb
  · have := HAT.out b hb
    have hz : (w5.setCell ⟨g, q, none⟩ (.slice a5 (n + 1) c5)).heap.size = w5.heap.size := by simp [World.setCell]
    rw [hz]
    exact this
/-- The order of outcomes: zero for the same. -/
def lessTo (a b : List Int) : Int :=
  match a, b with
  | x :: a, y :: b => if x < y then -1 else if x > y then 1 else lessTo a b
  | _, _ => 0
theorem less_same : ∀ (a : List Int) (b : List Int), a.length = b.length → (lessTo a b = 0 ↔ a = b)
  | [], [], _ => by simp [lessTo]
  | [], y :: b, h => by simp at h
  | x :: a, [], h => by simp at h
  | x :: a, y :: b, h => by
    have ih := less_same a b (by simpa using h)
    unfold lessTo
    by_cases h1 : x < y
    · rw [if_pos h1]; simp; omega
    · rw [if_neg h1]
      by_cases h2 : x > y
      · rw [if_pos h2]; simp; omega
      · rw [if_neg h2, ih]
        have : x = y := by omega
        simp [this]
end Go.Proofs.Ytbncmeggnhggkaa
namespace Go.Proofs.Ytbncmeggnhggkaa
open Go.RowKit
set_option linter.unusedVariables false
set_option linter.unusedSimpArgs false

theorem less_drop {xs ys : List Int} {k : Nat} {x y : Int} (hx : xs[k]? = some x) (hy : ys[k]? = some y) : lessTo (xs.drop k) (ys.drop k) = if x < y then -1 else if x > y then 1 else lessTo (xs.drop (k + 1)) (ys.drop (k + 1)) := by
  obtain ⟨h1, rfl⟩ := List.getElem?_eq_some_iff.1 hx
  obtain ⟨h2, rfl⟩ := List.getElem?_eq_some_iff.1 hy
  rw [List.drop_eq_getElem_cons h1, List.drop_eq_getElem_cons h2]
  rfl
theorem less_end {xs ys : List Int} {k : Nat} (h : xs.length ≤ k ∨ ys.length ≤ k) : lessTo (xs.drop k) (ys.drop k) = 0 := by
  rcases h with h | h
  · rw [List.drop_eq_nil_of_le h]
    cases ys.drop k <;> rfl
  · rw [List.drop_eq_nil_of_le h]
    cases xs.drop k <;> rfl
set_option maxHeartbeats 1600000 in
theorem l3Less_c (w : World) (a a' : Option Addr) (cap cap' : Nat) (xs ys : List Int) (h : Rd w a (ints xs)) (h' : Rd w a' (ints ys)) (hl : xs.length ≤ 1048576) (hl' : ys.length ≤ 1048576) :
    Calls Try.prog 81 #[.slice a xs.length cap, .slice a' ys.length cap'] w fun e w' => e = .returned (.int .i64 (lessTo xs ys)) ∧ Below w.heap.size w w' := by
  have HX := hid h
  have HY := hid h'
  obtain ⟨n, hn⟩ : ∃ n, n = xs.length := ⟨_, rfl⟩
  obtain ⟨m, hm⟩ : ∃ m, m = ys.length := ⟨_, rfl⟩
  have HN := hid (And.intro hn hm)
  obtain ⟨L, hL⟩ : ∃ L, L = lessTo xs ys := ⟨_, rfl⟩
  have HL0 := hid (show lessTo (xs.drop 0) (ys.drop 0) = L by rw [hL]; rfl)
  rw [← hL, ← hn, ← hm]
  rw [← hn] at hl
  rw [← hm] at hl'
  clear hn hm hL h h'
  go_enter Try.func81, Try.ntmps81
  go_wp2_with fail
  go_loopw [5] (fun i wr => ∃ k : Nat, k ≤ n ∧ i = .int .i64 k ∧ Hid (lessTo (xs.drop k) (ys.drop k) = L) ∧ Hid (Below w.heap.size w wr)) (fun i _ => n - (intOf i).toNat)
  case atStart => exact ⟨0, Nat.zero_le _, rfl, HL0, hid (Below.refl _ _)⟩
  case round =>
    obtain ⟨k, hk, rfl, HK, HB⟩ := hrel
    by_cases hkn : k < n
    · by_cases hkm : k < m
      · obtain ⟨b, off, hab, hb, hc⟩ := HX.out.int k (by rw [← HN.out.1]; exact hkn)
        obtain ⟨b', off', hab', hb', hc'⟩ := HY.out.int k (by rw [← HN.out.2]; exact hkm)
        subst hab
        subst hab'
        obtain ⟨x, hx⟩ : ∃ x, x = xs[k]'(by rw [← HN.out.1]; exact hkn) := ⟨_, rfl⟩
        obtain ⟨y, hy⟩ : ∃ y, y = ys[k]'(by rw [← HN.out.2]; exact hkm) := ⟨_, rfl⟩
        rw [← hx] at hc
        rw [← hy] at hc'
        have HD := hid (less_drop (xs := xs) (ys := ys) (k := k) (x := x) (y := y) (by rw [hx]; exact List.getElem?_eq_getElem _) (by rw [hy]; exact List.getElem?_eq_getElem _))
        have hcx := (HB.out.cell (p := ⟨b, off + k, none⟩) hb).trans hc
        have hcx' := (HB.out.cell (p := ⟨b', off' + k, none⟩) hb').trans hc'
        have hkn' : (k : Int) < n := by omega
        have hkm' : (k : Int) < m := by omega
        clear hc hc' hx hy
        by_cases h1 : x < y
        · have HF := hid (show L = -1 by rw [← HK.out, HD.out, if_pos h1])
          go_wp2_with fail
          go_quiet (fail)
          go_wp2
          go_ret
          exact ⟨by rw [HF.out]; rfl, below_drewN _ HB.out⟩
        · have h1' : decide (x < y) = false := by simpa using h1
          by_cases h2 : y < x
          · have HF := hid (show L = 1 by rw [← HK.out, HD.out, if_neg h1, if_pos h2])
            clear h1
            go_wp2_with fail
            go_quiet (fail)
            go_wp2_with fail
            go_quiet (fail)
            go_wp2
            go_ret
            exact ⟨by rw [HF.out]; rfl, below_drewN _ (below_drewN _ HB.out)⟩
          · have h2' : decide (y < x) = false := by simpa using h2
            have HF := hid (show lessTo (xs.drop (k + 1)) (ys.drop (k + 1)) = L by rw [← HK.out, HD.out, if_neg h1, if_neg (show ¬ x > y from h2)])
            clear h1 h2
            go_wp2_with fail
            go_quiet (fail)
            go_wp2_with fail
            go_quiet (fail)
            go_wp2_with fail
            go_roundw
            case rel => exact ⟨k + 1, by omega, by go_num, HF, hid (below_drewN _ HB.out)⟩
            case measure => simp [intOf]; omega
      · have HF := hid (show L = 0 by rw [← HK.out]; exact less_end (.inr (by have := HN.out.2; omega)))
        go_wp2_with fail
        go_ret
        exact ⟨by rw [HF.out]; rfl, HB.out⟩
    · have HF := hid (show L = 0 by rw [← HK.out]; exact less_end (.inl (by have := HN.out.1; omega)))
      go_wp2_with fail
      go_ret
      exact ⟨by rw [HF.out]; rfl, HB.out⟩
end Go.Proofs.Ytbncmeggnhggkaa
