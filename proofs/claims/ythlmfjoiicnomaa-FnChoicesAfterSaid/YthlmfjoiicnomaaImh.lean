/-
  PROVED HERE: what (*seq).after does. what slices.Index, Contains do over numbers. what impl.follow and finished do, for any machine whose methods' contracts are known. what impl.RunSchedule does. CONDITIONS: as each theorem states.
-/
import Derived.Test.YthlmfjoiicnomaaImd
import Derived.Test.YthlmfjoiicnomaaBf
namespace Go.Proofs.Ythlmfjoiicnomaa
open Go.RowKit
set_option linter.unusedVariables false
set_option linter.unusedSimpArgs false

/-- In the middle of a step: the copy lies at block B and holds sk now. -/
structure AfI (w : World) (B : Nat) (a : Option Addr) (n cap : Nat) (ex : List Value) (T : TypeId) (sk : St) (wk : World) : Prop where
  cur : wk.heap[B]? = some (.cells (valC a n cap sk ++ ex).toArray T (0, 0))
  len : ValLen sk
  below : Below w.heap.size w wk
  wb : w.heap.size ≤ B
section
variable {w wk wk' : World} {B : Nat} {a : Option Addr} {n cap : Nat} {ex : List Value} {T : TypeId} {sk : St}
theorem AfI.later (h : AfI w B a n cap ex T sk wk) (hb : Below wk.heap.size wk wk') : AfI w B a n cap ex T sk wk' :=
  ⟨by rw [hb.block B (Array.getElem?_eq_some_iff.1 h.cur).1]; exact h.cur, h.len, h.below.trans (hb.mono h.below.size), h.wb⟩
theorem AfI.drew (h : AfI w B a n cap ex T sk wk) : AfI w B a n cap ex T sk wk.drew := h.later (below_drewN 1 (Below.refl _ _))
theorem AfI.lt (h : AfI w B a n cap ex T sk wk) : B < wk.heap.size := (Array.getElem?_eq_some_iff.1 h.cur).1
theorem AfI.setCell (h : AfI w B a n cap ex T sk wk) {j : Nat} {v : Value} (hj : j < 16) {sk' : St} (hl : ValLen sk') (he : (valC a n cap sk).set j v = valC a n cap sk') : AfI w B a n cap ex T sk' (wk.setCell ⟨B, j, none⟩ v) := by
  refine ⟨?_, hl, h.below.setCell h.wb _, h.wb⟩
  rw [heap_setCell_same wk B j _ _ v h.cur, ← he]
  congr 2
  rw [List.setIfInBounds_toArray, List.set_append_left _ _ (by rw [length_valC h.len]; exact hj)]
theorem ValLen.setpc (h : ValLen sk) (t : Nat) (v : Int) : ValLen { sk with pc := sk.pc.set t v } := ⟨by simpa using h.pc, h.regs, h.mem⟩
theorem ValLen.setreg (h : ValLen sk) (t : Nat) (v : Int) : ValLen { sk with regs := sk.regs.set t v } := ⟨h.pc, by simpa using h.regs, h.mem⟩
theorem ValLen.setmem (h : ValLen sk) (t : Nat) (v : Int) : ValLen { sk with mem := sk.mem.set t v } := ⟨h.pc, h.regs, by simpa using h.mem⟩
theorem AfI.setpc (h : AfI w B a n cap ex T sk wk) {t : Nat} (ht : t < sk.pc.length) (v : Int) : AfI w B a n cap ex T { sk with pc := sk.pc.set t v } (wk.setCell ⟨B, 1 + t, none⟩ (.int .u8 v)) :=
  h.setCell (by have := h.len.pc; omega) (h.len.setpc t v) (valC_setpc h.len ht v)
theorem AfI.setreg (h : AfI w B a n cap ex T sk wk) {i : Nat} (ht : i < sk.regs.length) (v : Int) : AfI w B a n cap ex T { sk with regs := sk.regs.set i v } (wk.setCell ⟨B, 4 + i, none⟩ (.int .u8 v)) :=
  h.setCell (by have := h.len.regs; omega) (h.len.setreg i v) (valC_setreg h.len ht v)
theorem AfI.setmem (h : AfI w B a n cap ex T sk wk) {l : Nat} (ht : l < 3) (v : Int) : AfI w B a n cap ex T { sk with mem := sk.mem.set l v } (wk.setCell ⟨B, 13 + l, none⟩ (.int .u8 v)) :=
  h.setCell (by omega) (h.len.setmem l v) (valC_setmem h.len v)
theorem AfI.cell (h : AfI w B a n cap ex T sk wk) {j : Nat} {v : Value} (hj : (valC a n cap sk)[j]? = some v) : wk.cell? ⟨B, j, none⟩ = some v := by
  rw [cell_of_row wk B j _ _ _ h.cur, List.getElem?_toArray, List.getElem?_append_left (List.getElem?_eq_some_iff.1 hj).1]
  exact hj
theorem AfI.free (h : AfI w B a n cap ex T sk wk) (j : Nat) : wk.frozen? ⟨B, j, none⟩ = false := frozen_of_row wk B j _ _ h.cur
end

abbrev z16 : Array Value := #[.slice none 0 0, .int .u8 0, .int .u8 0, .int .u8 0, .int .u8 0, .int .u8 0, .int .u8 0, .int .u8 0, .int .u8 0, .int .u8 0, .int .u8 0, .int .u8 0, .int .u8 0, .int .u8 0, .int .u8 0, .int .u8 0]
end Go.Proofs.Ythlmfjoiicnomaa
namespace Go.Proofs.Ythlmfjoiicnomaa
open Go.RowKit
set_option linter.unusedVariables false
set_option linter.unusedSimpArgs false

theorem index_c (w : World) (a : Option Addr) (cap : Nat) (xs : List Int) (x : Int) (h : Rd w a (ints xs)) (hl : xs.length ≤ 1048576) :
    Calls Try.prog 92 #[.slice a xs.length cap, .int .i64 x] w fun e w' => ∃ r : Int, e = .returned (.int .i64 r) ∧ (0 ≤ r ↔ x ∈ xs) ∧ w = w' := by
  obtain ⟨n, hn⟩ : ∃ n, n = xs.length := ⟨_, rfl⟩
  have HN := hid hn
  have HR := hid h
  rw [← hn] at hl ⊢
  clear hn h
  go_enter Try.func92, Try.ntmps92
  go_wp2
  go_loop [8] (fun i => ∃ k : Nat, k ≤ n ∧ i = .int .i64 k ∧ Hid (∀ (j : Nat) y, j < k → xs[j]? = some y → y ≠ x)) (fun i => n - (intOf i).toNat)
  case atStart => exact ⟨0, Nat.zero_le _, rfl, hid (fun j y hj => by omega)⟩
  case round =>
    obtain ⟨k, hk, rfl, HS⟩ := hrel
    by_cases hlt : k < n
    · obtain ⟨b, off, hab, hb, hc⟩ := HR.out.int k (by rw [← HN.out]; exact hlt)
      subst hab
      obtain ⟨y, hy⟩ : ∃ y, y = xs[k]'(by rw [← HN.out]; exact hlt) := ⟨_, rfl⟩
      rw [← hy] at hc
      have HX := hid (show xs[k]? = some y by rw [hy]; exact List.getElem?_eq_getElem _)
      clear hy
      by_cases hp : x = y
      · have d : (x == y) = true := by simpa using hp
        have HP := hid hp
        clear hp
        go_wp2
        go_ret
        refine ⟨_, rfl, ⟨fun _ => ?_, fun _ => by omega⟩, rfl⟩
        rw [HP.out]
        exact List.mem_of_getElem? HX.out
      · have d : (x == y) = false := by simpa using hp
        have HP := hid hp
        clear hp
        go_wp2_with fail
        go_round
        case rel => exact ⟨k + 1, by omega, by go_num, hid (fun j z hj hz => by
          by_cases hjk : j = k
          · subst hjk; rw [HX.out] at hz; cases hz; exact fun e => HP.out e.symm
          · exact HS.out j z (by omega) hz)⟩
        case measure => simp [intOf]; omega
    · go_wp2
      go_ret
      refine ⟨_, rfl, ⟨fun h => by omega, fun hm => ?_⟩, rfl⟩
      exfalso
      obtain ⟨j, hj, e⟩ := List.mem_iff_getElem.1 hm
      exact HS.out j x (by have := HN.out; omega) (by rw [List.getElem?_eq_getElem hj, e]) rfl

theorem contains_c (w : World) (a : Option Addr) (cap : Nat) (xs : List Int) (x : Int) (h : Rd w a (ints xs)) (hl : xs.length ≤ 1048576) :
    Calls Try.prog 68 #[.slice a xs.length cap, .int .i64 x] w fun e w' => e = .returned (.bool (decide (x ∈ xs))) ∧ w = w' := by
  have C := hid (index_c w a cap xs x h hl)
  clear h
  go_enter Try.func68, Try.ntmps68
  go_wp2_with fail
  refine C.out.mono ?_
  rintro e w1 ⟨r, rfl, hr, rfl⟩
  have HR := hid hr
  clear hr
  go_wp2
  go_ret
  exact ⟨ret_bool (decide_eq_decide.2 HR.out), rfl⟩
end Go.Proofs.Ythlmfjoiicnomaa
namespace Go.Proofs.Ythlmfjoiicnomaa
open Go.RowKit
set_option linter.unusedVariables false
set_option linter.unusedSimpArgs false

/-- A machine: the dynamic type of its states, how a state lies in memory, its methods and what they do. -/
structure Mach (σ : Type) where
  T : TypeId
  lies : World → Nat → σ → Prop
  later : ∀ {w w' : World} {b : Nat} {s : σ}, lies w b s → Below w.heap.size w w' → lies w' b s
  mv : σ → List Int
  st : σ → Int → σ
  dn : σ → Bool
  out : σ → List Int
  fm : FuncId
  fa : FuncId
  fd : FuncId
  fo : FuncId
  mvlen : ∀ {w : World} {b : Nat} {s : σ}, lies w b s → (mv s).length ≤ 1000
  moves_c : ∀ (w : World) (b : Nat) (s : σ), lies w b s → Calls Try.prog fm #[.pointer (some ⟨b, 0, none⟩)] w (RetL w (mv s))
  after_c : ∀ (w : World) (b : Nat) (s : σ) (m : Int), lies w b s → m ∈ mv s → Calls Try.prog fa #[.pointer (some ⟨b, 0, none⟩), .int .i64 m] w fun e w' => ∃ b', e = .returned (.iface T (.pointer (some ⟨b', 0, none⟩))) ∧ lies w' b' (st s m) ∧ Below w.heap.size w w'
  done_c : ∀ (w : World) (b : Nat) (s : σ), lies w b s → Calls Try.prog fd #[.pointer (some ⟨b, 0, none⟩)] w fun e w' => e = .returned (.bool (dn s)) ∧ Below w.heap.size w w'
  outcome_c : ∀ (w : World) (b : Nat) (s : σ), lies w b s → Calls Try.prog fo #[.pointer (some ⟨b, 0, none⟩)] w (RetL w (out s))
  hm : ∀ (b : Nat) (w : World), (method 316 T (.pointer (some ⟨b, 0, none⟩)) "loop.example/weakmemory/impl.moves").run Try.prog w = .ok (fm, .pointer (some ⟨b, 0, none⟩)) w
  ha : ∀ (b : Nat) (w : World), (method 316 T (.pointer (some ⟨b, 0, none⟩)) "loop.example/weakmemory/impl.after").run Try.prog w = .ok (fa, .pointer (some ⟨b, 0, none⟩)) w
  hd : ∀ (b : Nat) (w : World), (method 316 T (.pointer (some ⟨b, 0, none⟩)) "loop.example/weakmemory/impl.done").run Try.prog w = .ok (fd, .pointer (some ⟨b, 0, none⟩)) w
  ho : ∀ (b : Nat) (w : World), (method 316 T (.pointer (some ⟨b, 0, none⟩)) "loop.example/weakmemory/impl.outcome").run Try.prog w = .ok (fo, .pointer (some ⟨b, 0, none⟩)) w
  cm : ∀ args (w : World), (callFunc fm args).run Try.prog w = .ok (.enter fm args) w
  ca : ∀ args (w : World), (callFunc fa args).run Try.prog w = .ok (.enter fa args) w
  cd : ∀ args (w : World), (callFunc fd args).run Try.prog w = .ok (.enter fd args) w
  co : ∀ args (w : World), (callFunc fo args).run Try.prog w = .ok (.enter fo args) w

/-- What follow hands back. -/
def FolR {σ : Type} (M : Mach σ) (w : World) (o : Option σ) (e : Ending) (w' : World) : Prop :=
  (match o with | some s => ∃ b, e = .returned (.tuple #[.iface M.T (.pointer (some ⟨b, 0, none⟩)), .bool true]) ∧ M.lies w' b s | none => e = .returned (.tuple #[.nilIface, .bool false])) ∧ Below w.heap.size w w'
theorem FolR.some {σ : Type} {M : Mach σ} {w w' : World} {o : Option σ} {s : σ} {b : Nat} (ho : o = .some s) (h : M.lies w' b s) (hb : Below w.heap.size w w') : FolR M w o (.returned (.tuple #[.iface M.T (.pointer (.some ⟨b, 0, none⟩)), .bool true])) w' := by
  subst ho
  exact ⟨⟨b, rfl, h⟩, hb⟩
theorem FolR.none {σ : Type} {M : Mach σ} {w w' : World} {o : Option σ} (ho : o = .none) (hb : Below w.heap.size w w') : FolR M w o (.returned (.tuple #[.nilIface, .bool false])) w' := by
  subst ho
  exact ⟨rfl, hb⟩
set_option maxRecDepth 100000 in
set_option maxHeartbeats 800000 in
theorem follow_c {σ : Type} (M : Mach σ) (w : World) (b0 : Nat) (s0 : σ) (a : Option Addr) (cap : Nat) (ms : List Int) (h : M.lies w b0 s0) (hm : Rd w a (ints ms)) (hl : ms.length ≤ 1048576) :
    Calls Try.prog 40 #[.iface M.T (.pointer (some ⟨b0, 0, none⟩)), .slice a ms.length cap] w (FolR M w (Proofs.Ythlmfjoiicnomaa.follow M.mv M.st s0 ms)) := by
  obtain ⟨n, hn⟩ : ∃ n, n = ms.length := ⟨_, rfl⟩
  have HN := hid hn
  have HR := hid hm
  have HL := hid h
  rw [← hn] at hl ⊢
  clear hn h hm
  go_enter Try.func40, Try.ntmps40
  go_wp2_with fail
  go_loopw [0, 10] (fun v i wr => ∃ k : Nat, k ≤ n ∧ i = .int .i64 k ∧ (∃ b, v = .iface M.T (.pointer (some ⟨b, 0, none⟩)) ∧ Hid (∃ s, Proofs.Ythlmfjoiicnomaa.follow M.mv M.st s0 (ms.take k) = some s ∧ M.lies wr b s)) ∧ Hid (Below w.heap.size w wr)) (fun _ i _ => n - (intOf i).toNat)
  case atStart => exact ⟨0, Nat.zero_le _, rfl, ⟨b0, rfl, hid ⟨s0, by simp [Proofs.Ythlmfjoiicnomaa.follow], HL.out⟩⟩, hid (Below.refl _ _)⟩
  case round =>
    obtain ⟨k, hk, rfl, ⟨b, rfl, HS⟩, HB⟩ := hrel
    by_cases hlt : k < n
    · obtain ⟨mb, mo, hab, hbl, hc⟩ := HR.out.int k (by rw [← HN.out]; exact hlt)
      subst hab
      obtain ⟨m, hm⟩ : ∃ m, m = ms[k]'(by rw [← HN.out]; exact hlt) := ⟨_, rfl⟩
      rw [← hm] at hc
      have HX := hid (show ms[k]? = some m by rw [hm]; exact List.getElem?_eq_getElem _)
      have hcm := (HB.out.cell (p := ⟨mb, mo + k, none⟩) hbl).trans hc
      clear hm hc
      obtain ⟨s, hfo, hls⟩ := HS.out
      have HFO := hid hfo
      have HLS := hid hls
      have HMV := hid (M.moves_c wr b s hls)
      have hlen := M.mvlen hls
      obtain ⟨L, hL⟩ : ∃ L, L = M.mv s := ⟨_, rfl⟩
      have HLE := hid hL
      rw [← hL] at HMV hlen
      have hm1 := M.hm b
      have hcm1 := M.cm
      have ha1 := M.ha b
      have hca1 := M.ca
      clear hfo hls hL HS
      by_cases hin : m ∈ L
      · have HIN := hid hin
        have d0 : decide (m ∈ L) = true := decide_eq_true hin
        clear hin
        go_wp2_with fail
        refine HMV.out.mono ?_
        rintro e w2 ⟨ma, mc, rfl, hown, hb2⟩
        have HRL := hid (Rd.own hown)
        have HB2 := hid (HB.out.trans (hb2.mono HB.out.size))
        have HLS2 := hid (M.later HLS.out hb2)
        clear hown hb2
        go_wp2_with fail
        refine (contains_c _ _ _ L m HRL.out (by omega)).mono ?_
        rintro e w3 ⟨rfl, rfl⟩
        rw [d0]
        go_wp2_with fail
        refine (M.after_c _ _ s m HLS2.out (by rw [← HLE.out]; exact HIN.out)).mono ?_
        rintro e w4 ⟨b', rfl, hls4, hb4⟩
        have HLS4 := hid hls4
        have HB4 := hid (HB2.out.trans (hb4.mono HB2.out.size))
        clear hls4 hb4
        go_wp2_with fail
        go_roundw
        case rel => exact ⟨k + 1, by omega, by go_num, ⟨b', rfl, hid ⟨_, follow_step HFO.out HX.out (by rw [← HLE.out]; exact HIN.out), HLS4.out⟩⟩, HB4⟩
        case measure => simp [intOf]; omega
      · have HST := hid (follow_stop HFO.out HX.out (by rw [← HLE.out]; exact hin))
        have d0 : decide (m ∈ L) = false := decide_eq_false hin
        clear hin
        go_wp2_with fail
        refine HMV.out.mono ?_
        rintro e w2 ⟨ma, mc, rfl, hown, hb2⟩
        have HRL := hid (Rd.own hown)
        have HB2 := hid (HB.out.trans (hb2.mono HB.out.size))
        clear hown hb2
        go_wp2_with fail
        refine (contains_c _ _ _ L m HRL.out (by omega)).mono ?_
        rintro e w3 ⟨rfl, rfl⟩
        rw [d0]
        go_wp2
        go_ret2
        exact FolR.none HST.out HB2.out
    · obtain ⟨s, hfo, hls⟩ := HS.out
      have HALL := hid (follow_all hfo (show ms.length ≤ k by have := HN.out; omega))
      have HLS := hid hls
      clear hfo hls HS
      go_wp2
      go_ret2
      exact FolR.some HALL.out HLS.out HB.out

set_option maxRecDepth 100000 in
set_option maxHeartbeats 800000 in
theorem finished_c {σ : Type} (M : Mach σ) (w : World) (b0 : Nat) (s0 : σ) (a : Option Addr) (cap : Nat) (ms : List Int) (h : M.lies w b0 s0) (hm : Rd w a (ints ms)) (hl : ms.length ≤ 1048576) :
    Calls Try.prog 34 #[.iface M.T (.pointer (some ⟨b0, 0, none⟩)), .slice a ms.length cap] w (RetLB w (runRes M.dn M.out (Proofs.Ythlmfjoiicnomaa.follow M.mv M.st s0 ms))) := by
  have HF := hid (follow_c M w b0 s0 a cap ms h hm hl)
  obtain ⟨r, hr⟩ : ∃ r, r = Proofs.Ythlmfjoiicnomaa.follow M.mv M.st s0 ms := ⟨_, rfl⟩
  rw [← hr] at HF ⊢
  clear h hm hr
  cases r with
  | none =>
    have HR := hid (show runRes M.dn M.out (none : Option σ) = ([], false) from rfl)
    rw [HR.out]
    go_enter Try.func34, Try.ntmps34
    go_wp2_with fail
    refine HF.out.mono ?_
    rintro e w1 ⟨rfl, hb1⟩
    go_wp2
    go_ret2
    exact retLB_nil hb1
  | some s =>
    have HDN := hid (fun w b h => M.done_c w b s h)
    have HOU := hid (fun w b h => M.outcome_c w b s h)
    by_cases hd : M.dn s = true
    · have HR := hid (show runRes M.dn M.out (some s) = (M.out s, true) from by unfold runRes; dsimp only; rw [if_pos hd])
      rw [HR.out]
      rw [hd] at HDN
      have hd1 := M.hd
      have cd1 := M.cd
      have ho1 := M.ho
      have co1 := M.co
      clear hd
      go_enter Try.func34, Try.ntmps34
      go_wp2_with fail
      refine HF.out.mono ?_
      rintro e w1 ⟨⟨b, rfl, hls⟩, hb1⟩
      have HLS := hid hls
      have HB1 := hid hb1
      clear hls hb1
      go_wp2_with fail
      refine (HDN.out _ _ HLS.out).mono ?_
      rintro e w2 ⟨rfl, hb2⟩
      have HLS2 := hid (M.later HLS.out hb2)
      have HB2 := hid (HB1.out.trans (hb2.mono HB1.out.size))
      clear hb2
      go_wp2_with fail
      refine (HOU.out _ _ HLS2.out).mono ?_
      rintro e w3 ⟨a3, c3, rfl, ho3, hb3⟩
      have HO3 := hid ho3
      have HB3 := hid hb3
      clear ho3 hb3
      go_wp2
      go_ret2
      exact ⟨a3, c3, rfl, own_base HO3.out HB2.out.size, HB2.out.trans (HB3.out.mono HB2.out.size)⟩
    · have hd : M.dn s = false := by simpa using hd
      have HR := hid (show runRes M.dn M.out (some s) = ([], false) from by unfold runRes; dsimp only; rw [if_neg (by simp [hd])])
      rw [HR.out]
      rw [hd] at HDN
      have hd1 := M.hd
      have cd1 := M.cd
      clear hd
      go_enter Try.func34, Try.ntmps34
      go_wp2_with fail
      refine HF.out.mono ?_
      rintro e w1 ⟨⟨b, rfl, hls⟩, hb1⟩
      have HLS := hid hls
      have HB1 := hid hb1
      clear hls hb1
      go_wp2_with fail
      refine (HDN.out _ _ HLS.out).mono ?_
      rintro e w2 ⟨rfl, hb2⟩
      have HB2 := hid (HB1.out.trans (hb2.mono HB1.out.size))
      clear hb2
      go_wp2
      go_ret2
      exact retLB_nil HB2.out
end Go.Proofs.Ythlmfjoiicnomaa
namespace Go.Proofs.Ythlmfjoiicnomaa
open Go.RowKit
set_option linter.unusedVariables false
set_option linter.unusedSimpArgs false

theorem moves3_len {p : Prg} (s : St) (hv : Shape p) : (moves3 p s).length ≤ 1000 := by
  have := movesTo_len p s p.length
  have := hv.len
  show (movesTo p s p.length).length ≤ 1000
  omega
end Go.Proofs.Ythlmfjoiicnomaa
