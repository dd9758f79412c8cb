/-
  PROVED HERE: what spec.l3Mark and l3Less do. CONDITIONS: as each theorem states.
-/
import Derived.Test.YtbncmeggnhggkaaTab
namespace Go.Proofs.Ytbncmeggnhggkaa
open Go.RowKit
set_option linter.unusedVariables false
set_option linter.unusedSimpArgs false

theorem wpList_append_txt {ops : Array Oper} {Q : Exit → Act → World → Prop} {a : Act} {w : World} {o : Oper} {rest : List Oper} (hgd : o.guard = none) (s x : Operand)
    (ho : o.op = .call { callee := .builtin .append, args := #[s, x], argTypes := #[139, 139] })
    (v : Value) (n : Nat) (xs : List ByteArray) (hs : a.eval s = v) (hown : w.ownsRow 0 9 1 v n (strs xs)) (ad : Addr) (t : ByteArray) (hx : a.eval x = .slice (some ad) 1 1) (hu : w.cell? ad = some (.string t)) (hn : n + 1 ≤ 8000000000001)
    (h : ∀ v' w', w'.ownsRow 0 9 1 v' (n + 1) (strs (xs ++ [t])) → w.grownBy w' v.ownBlock → (v'.ownBlock = v.ownBlock ∨ v'.ownBlock = some w.heap.size) → wpList Try.prog ops Q rest (a.put o.dst v') w') : wpList Try.prog ops Q (o :: rest) a w := by
  refine wpList_plain hgd fun K hK => ?_
  obtain ⟨v', w', hrun, q1, q2, q3⟩ := run_append_txt o.type v n xs hown ad t hu hn
  unfold Oper.wp execOp
  simp only [ho, resolve, invoke, builtin, Sem.run_bind, Sem.run_pure, Result.andThen_ok, List.map_toArray, List.map_cons, List.map_nil, hs, hx, hrun]
  exact hK _ _ (h v' w' q1 q2 q3)
/-- What l3Mark leaves. -/
def Marked (w w' : World) (g : Nat) (S : Nat → Prop) (p : List (List ByteArray)) : Prop :=
  ∃ S' : Nat → Prop, Tab w' g S' p ∧ Keeps S w w' ∧ ∀ b, S' b → S b ∨ (w.heap.size ≤ b ∧ b < w'.heap.size)

set_option maxRecDepth 100000 in
set_option maxHeartbeats 1600000 in
theorem l3Mark_c (w : World) (g : Nat) (S : Nat → Prop) (p : List (List ByteArray)) (t : ByteArray) (h : Tab w g S p) (hp : p.length = 4096) (ht : t.size ≤ 1000000) (hn : (p.getD (hashS t) []).length ≤ 8000000000000) :
    Calls Try.prog 84 #[.slice (some ⟨g, 0, none⟩) 4096 4096, .string t] w fun e w' => e = .returned (.tuple #[]) ∧ Marked w w' g S (markT p t) := by
  have hlt := hashTo_lt t t.size
  obtain ⟨r, c, hc, hrow, hrb, hstep⟩ := h.row (row_get (p := p) (k := hashS t) (by rw [hp]; exact hlt))
  have HH := hid (fun w => l3Hash_c w t ht)
  have HG := hid h.lt
  have HSG := hid (show S g from by obtain ⟨_, _, _, _, _, _, _, hg⟩ := h; exact hg)
  unfold markT
  obtain ⟨xs, hxs⟩ : ∃ xs, xs = p.getD (hashS t) [] := ⟨_, rfl⟩
  rw [← hxs] at hc hrow hn hstep ⊢
  obtain ⟨n, hne⟩ : ∃ n, n = xs.length := ⟨_, rfl⟩
  have HROW := hid (show w.ownsRow 0 9 1 (.slice r n c) n (strs xs) from by rw [hne]; exact hrow)
  have HN := hid hne
  have HST := hid hstep
  have HRB := hid hrb
  rw [← hne] at hc hn
  change hashS t < 4096 at hlt
  obtain ⟨q, hq⟩ : ∃ q, q = hashS t := ⟨_, rfl⟩
  rw [← hq] at hc HH hlt HST ⊢
  have hqi : (q : Int) < 4096 := by omega
  rw [← hne] at HST
  clear h hp hxs hne hq hrow hstep hrb
  go_enter Try.func84, Try.ntmps84
  go_wp2_with fail
  refine (HH.out _).mono ?_
  rintro e w1 ⟨rfl, rfl⟩
  have HO := hid (own_below HROW.out ((Below.refl _ _).alloc (Nat.le_refl _) (.cells #[.string t] 9)))
  go_wp2_with (at_builtin; refine wpList_append_txt rfl (.tmp 12) (.tmp 14) rfl _ _ _ rfl HO.out _ t rfl (by simp) (by omega) ?_)
  intro v5 w5 hown5 hgrow5 hat5
  rw [ownBlock_slice] at hgrow5 hat5
  obtain ⟨hc5, hf5, htab⟩ := HST.out w5 v5 (xs ++ [t]) ((Keeps.of_below ((Below.refl _ _).alloc (Nat.le_refl _) (.cells #[.string t] 9))).trans (Keeps.of_grown hgrow5 (fun k hk => hk))) (by rw [List.length_append, List.length_singleton, ← HN.out]; exact own_cast hown5 rfl (by simp))
    (hat5.imp id fun e b hb k hk hkl he => by rw [e] at hb; have := Option.some.inj hb; omega)
  have HK5 := hid (show Keeps S w1 w5 from ((Keeps.of_below ((Below.refl _ _).alloc (Nat.le_refl _) (.cells #[.string t] 9))).trans (Keeps.of_grown hgrow5 (fun k hk => (HRB.out k hk).1))))
  have HAT := hid (show ∀ b, v5.ownBlock = some b → S b ∨ (w1.heap.size ≤ b ∧ b < w5.heap.size) from fun b hb => by
    have hb9 : b < w5.heap.size := by
      obtain ⟨a9, c9, rfl, hbb⟩ := own_shape hown5
      rw [ownBlock_slice] at hb
      exact (hbb b hb).2
    rcases hat5 with e | e
    · rw [e] at hb; exact .inl (HRB.out b hb).1
    · rw [e] at hb; have := Option.some.inj hb; exact .inr (by omega))
  have HT := hid htab
  obtain ⟨a5, c5, rfl, _⟩ := own_shape hown5
  clear htab hown5 hgrow5 hat5
  go_wp2_with fail
  go_end0
  refine ⟨rfl, _, HT.out, HK5.out.trans ((Keeps.setCell w5 ⟨g, q, none⟩ _).mono fun k (e : k = g) => by rw [e]; exact HSG.out), fun b hb => ?_⟩
  rcases hb with hb | hb
  · exact .inl hb
  · have := HAT.out b hb
    have hz : (w5.setCell ⟨g, q, none⟩ (.slice a5 (n + 1) c5)).heap.size = w5.heap.size := by simp [World.setCell]
    rw [hz]
    exact this
/-- The order of outcomes: zero for the same. -/
def lessTo (a b : List Int) : Int :=
  match a, b with
  | x :: a, y :: b => if x < y then -1 else if x > y then 1 else lessTo a b
  | _, _ => 0
theorem less_same : ∀ (a : List Int) (b : List Int), a.length = b.length → (lessTo a b = 0 ↔ a = b)
  | [], [], _ => by simp [lessTo]
  | [], y :: b, h => by simp at h
  | x :: a, [], h => by simp at h
  | x :: a, y :: b, h => by
    have ih := less_same a b (by simpa using h)
    unfold lessTo
    by_cases h1 : x < y
    · rw [if_pos h1]; simp; omega
    · rw [if_neg h1]
      by_cases h2 : x > y
      · rw [if_pos h2]; simp; omega
      · rw [if_neg h2, ih]
        have : x = y := by omega
        simp [this]
end Go.Proofs.Ytbncmeggnhggkaa
