/-
  PROVED HERE: what impl.follow and finished do, for any machine whose methods' contracts are known. CONDITIONS: as each theorem states.
-/
import Derived.Test.YtbncmeggnhggkaaImf
namespace Go.Proofs.Ytbncmeggnhggkaa
open Go.RowKit
set_option linter.unusedVariables false
set_option linter.unusedSimpArgs false

/-- A machine: the dynamic type of its states, how a state lies in memory, its methods and what they do. -/
structure Mach (σ : Type) where
  T : TypeId
  lies : World → Nat → σ → Prop
  later : ∀ {w w' : World} {b : Nat} {s : σ}, lies w b s → Below w.heap.size w w' → lies w' b s
  mv : σ → List Int
  st : σ → Int → σ
  dn : σ → Bool
  out : σ → List Int
  fm : FuncId
  fa : FuncId
  fd : FuncId
  fo : FuncId
  mvlen : ∀ {w : World} {b : Nat} {s : σ}, lies w b s → (mv s).length ≤ 1000
  moves_c : ∀ (w : World) (b : Nat) (s : σ), lies w b s → Calls Try.prog fm #[.pointer (some ⟨b, 0, none⟩)] w (RetL w (mv s))
  after_c : ∀ (w : World) (b : Nat) (s : σ) (m : Int), lies w b s → m ∈ mv s → Calls Try.prog fa #[.pointer (some ⟨b, 0, none⟩), .int .i64 m] w fun e w' => ∃ b', e = .returned (.iface T (.pointer (some ⟨b', 0, none⟩))) ∧ lies w' b' (st s m) ∧ Below w.heap.size w w'
  done_c : ∀ (w : World) (b : Nat) (s : σ), lies w b s → Calls Try.prog fd #[.pointer (some ⟨b, 0, none⟩)] w fun e w' => e = .returned (.bool (dn s)) ∧ Below w.heap.size w w'
  outcome_c : ∀ (w : World) (b : Nat) (s : σ), lies w b s → Calls Try.prog fo #[.pointer (some ⟨b, 0, none⟩)] w (RetL w (out s))
  hm : ∀ (b : Nat) (w : World), (method 305 T (.pointer (some ⟨b, 0, none⟩)) "loop.example/weakmemory/impl.moves").run Try.prog w = .ok (fm, .pointer (some ⟨b, 0, none⟩)) w
  ha : ∀ (b : Nat) (w : World), (method 305 T (.pointer (some ⟨b, 0, none⟩)) "loop.example/weakmemory/impl.after").run Try.prog w = .ok (fa, .pointer (some ⟨b, 0, none⟩)) w
  hd : ∀ (b : Nat) (w : World), (method 305 T (.pointer (some ⟨b, 0, none⟩)) "loop.example/weakmemory/impl.done").run Try.prog w = .ok (fd, .pointer (some ⟨b, 0, none⟩)) w
  ho : ∀ (b : Nat) (w : World), (method 305 T (.pointer (some ⟨b, 0, none⟩)) "loop.example/weakmemory/impl.outcome").run Try.prog w = .ok (fo, .pointer (some ⟨b, 0, none⟩)) w
  cm : ∀ args (w : World), (callFunc fm args).run Try.prog w = .ok (.enter fm args) w
  ca : ∀ args (w : World), (callFunc fa args).run Try.prog w = .ok (.enter fa args) w
  cd : ∀ args (w : World), (callFunc fd args).run Try.prog w = .ok (.enter fd args) w
  co : ∀ args (w : World), (callFunc fo args).run Try.prog w = .ok (.enter fo args) w

/-- What follow hands back. -/
def FolR {σ : Type} (M : Mach σ) (w : World) (o : Option σ) (e : Ending) (w' : World) : Prop :=
  (match o with | some s => ∃ b, e = .returned (.tuple #[.iface M.T (.pointer (some ⟨b, 0, none⟩)), .bool true]) ∧ M.lies w' b s | none => e = .returned (.tuple #[.nilIface, .bool false])) ∧ Below w.heap.size w w'
theorem FolR.some {σ : Type} {M : Mach σ} {w w' : World} {o : Option σ} {s : σ} {b : Nat} (ho : o = .some s) (h : M.lies w' b s) (hb : Below w.heap.size w w') : FolR M w o (.returned (.tuple #[.iface M.T (.pointer (.some ⟨b, 0, none⟩)), .bool true])) w' := by
  subst ho
  exact ⟨⟨b, rfl, h⟩, hb⟩
theorem FolR.none {σ : Type} {M : Mach σ} {w w' : World} {o : Option σ} (ho : o = .none) (hb : Below w.heap.size w w') : FolR M w o (.returned (.tuple #[.nilIface, .bool false])) w' := by
  subst ho
  exact ⟨rfl, hb⟩
set_option maxRecDepth 100000 in
set_option maxHeartbeats 800000 in
theorem follow_c {σ : Type} (M : Mach σ) (w : World) (b0 : Nat) (s0 : σ) (a : Option Addr) (cap : Nat) (ms : List Int) (h : M.lies w b0 s0) (hm : Rd w a (ints ms)) (hl : ms.length ≤ 1048576) :
    Calls Try.prog 46 #[.iface M.T (.pointer (some ⟨b0, 0, none⟩)), .slice a ms.length cap] w (FolR M w (Proofs.Ytbncmeggnhggkaa.follow M.mv M.st s0 ms)) := by
  obtain ⟨n, hn⟩ : ∃ n, n = ms.length := ⟨_, rfl⟩
  have HN := hid hn
  have HR := hid hm
  have HL := hid h
  rw [← hn] at hl ⊢
  clear hn h hm
  go_enter Try.func46, Try.ntmps46
  go_wp2_with fail
  go_loopw [0, 10] (fun v i wr => ∃ k : Nat, k ≤ n ∧ i = .int .i64 k ∧ (∃ b, v = .iface M.T (.pointer (some ⟨b, 0, none⟩)) ∧ Hid (∃ s, Proofs.Ytbncmeggnhggkaa.follow M.mv M.st s0 (ms.take k) = some s ∧ M.lies wr b s)) ∧ Hid (Below w.heap.size w wr)) (fun _ i _ => n - (intOf i).toNat)
  case atStart => exact ⟨0, Nat.zero_le _, rfl, ⟨b0, rfl, hid ⟨s0, by simp [Proofs.Ytbncmeggnhggkaa.follow], HL.out⟩⟩, hid (Below.refl _ _)⟩
  case round =>
    obtain ⟨k, hk, rfl, ⟨b, rfl, HS⟩, HB⟩ := hrel
    by_cases hlt : k < n
    · obtain ⟨mb, mo, hab, hbl, hc⟩ := HR.out.int k (by rw [← HN.out]; exact hlt)
      subst hab
      obtain ⟨m, hm⟩ : ∃ m, m = ms[k]'(by rw [← HN.out]; exact hlt) := ⟨_, rfl⟩
      rw [← hm] at hc
      have HX := hid (show ms[k]? = some m by rw [hm]; exact List.getElem?_eq_getElem _)
      have hcm := (HB.out.cell (p := ⟨mb, mo + k, none⟩) hbl).trans hc
      clear hm hc
      obtain ⟨s, hfo, hls⟩ := HS.out
      have HFO := hid hfo
      have HLS := hid hls
      have HMV := hid (M.moves_c wr b s hls)
      have hlen := M.mvlen hls
      obtain ⟨L, hL⟩ : ∃ L, L = M.mv s := ⟨_, rfl⟩
      have HLE := hid hL
      rw [← hL] at HMV hlen
      have hm1 := M.hm b
      have hcm1 := M.cm
      have ha1 := M.ha b
      have hca1 := M.ca
      clear hfo hls hL HS
      by_cases hin : m ∈ L
      · have HIN := hid hin
        have d0 : decide (m ∈ L) = true := decide_eq_true hin
        clear hin
        go_wp2_with fail
        refine HMV.out.mono ?_
        rintro e w2 ⟨ma, mc, rfl, hown, hb2⟩
        have HRL := hid (Rd.own hown)
        have HB2 := hid (HB.out.trans (hb2.mono HB.out.size))
        have HLS2 := hid (M.later HLS.out hb2)
        clear hown hb2
        go_wp2_with fail
        refine (contains_c _ _ _ L m HRL.out (by omega)).mono ?_
        rintro e w3 ⟨rfl, rfl⟩
        rw [d0]
        go_wp2_with fail
        refine (M.after_c _ _ s m HLS2.out (by rw [← HLE.out]; exact HIN.out)).mono ?_
        rintro e w4 ⟨b', rfl, hls4, hb4⟩
        have HLS4 := hid hls4
        have HB4 := hid (HB2.out.trans (hb4.mono HB2.out.size))
        clear hls4 hb4
        go_wp2_with fail
        go_roundw
        case rel => exact ⟨k + 1, by omega, by go_num, ⟨b', rfl, hid ⟨_, follow_step HFO.out HX.out (by rw [← HLE.out]; exact HIN.out), HLS4.out⟩⟩, HB4⟩
        case measure => simp [intOf]; omega
      · have HST := hid (follow_stop HFO.out HX.out (by rw [← HLE.out]; exact hin))
        have d0 : decide (m ∈ L) = false := decide_eq_false hin
        clear hin
        go_wp2_with fail
        refine HMV.out.mono ?_
        rintro e w2 ⟨ma, mc, rfl, hown, hb2⟩
        have HRL := hid (Rd.own hown)
        have HB2 := hid (HB.out.trans (hb2.mono HB.out.size))
        clear hown hb2
        go_wp2_with fail
        refine (contains_c _ _ _ L m HRL.out (by omega)).mono ?_
        rintro e w3 ⟨rfl, rfl⟩
        rw [d0]
        go_wp2
        go_ret2
        exact FolR.none HST.out HB2.out
    · obtain ⟨s, hfo, hls⟩ := HS.out
      have HALL := hid (follow_all hfo (show ms.length ≤ k by have := HN.out; omega))
      have HLS := hid hls
      clear hfo hls HS
      go_wp2
      go_ret2
      exact FolR.some HALL.out HLS.out HB.out

set_option maxRecDepth 100000 in
set_option maxHeartbeats 800000 in
theorem finished_c {σ : Type} (M : Mach σ) (w : World) (b0 : Nat) (s0 : σ) (a : Option Addr) (cap : Nat) (ms : List Int) (h : M.lies w b0 s0) (hm : Rd w a (ints ms)) (hl : ms.length ≤ 1048576) :
    Calls Try.prog 40 #[.iface M.T (.pointer (some ⟨b0, 0, none⟩)), .slice a ms.length cap] w (RetLB w (runRes M.dn M.out (Proofs.Ytbncmeggnhggkaa.follow M.mv M.st s0 ms))) := by
  have HF := hid (follow_c M w b0 s0 a cap ms h hm hl)
  obtain ⟨r, hr⟩ : ∃ r, r = Proofs.Ytbncmeggnhggkaa.follow M.mv M.st s0 ms := ⟨_, rfl⟩
  rw [← hr] at HF ⊢
  clear h hm hr
  cases r with
  | none =>
    have HR := hid (show runRes M.dn M.out (none : Option σ) = ([], false) from rfl)
    rw [HR.out]
    go_enter Try.func40, Try.ntmps40
    go_wp2_with fail
    refine HF.out.mono ?_
    rintro e w1 ⟨rfl, hb1⟩
    go_wp2
    go_ret2
    exact retLB_nil hb1
  | some s =>
    have HDN := hid (fun w b h => M.done_c w b s h)
    have HOU := hid (fun w b h => M.outcome_c w b s h)
    by_cases hd : M.dn s = true
    · have HR := hid (show runRes M.dn M.out (some s) = (M.out s, true) from by unfold runRes; dsimp only; rw [if_pos hd])
      rw [HR.out]
      rw [hd] at HDN
      have hd1 := M.hd
      have cd1 := M.cd
      have ho1 := M.ho
      have co1 := M.co
      clear hd
      go_enter Try.func40, Try.ntmps40
      go_wp2_with fail
      refine HF.out.mono ?_
      rintro e w1 ⟨⟨b, rfl, hls⟩, hb1⟩
      have HLS := hid hls
      have HB1 := hid hb1
      clear hls hb1
      go_wp2_with fail
      refine (HDN.out _ _ HLS.out).mono ?_
      rintro e w2 ⟨rfl, hb2⟩
      have HLS2 := hid (M.later HLS.out hb2)
      have HB2 := hid (HB1.out.trans (hb2.mono HB1.out.size))
      clear hb2
      go_wp2_with fail
      refine (HOU.out _ _ HLS2.out).mono ?_
      rintro e w3 ⟨a3, c3, rfl, ho3, hb3⟩
      have HO3 := hid ho3
      have HB3 := hid hb3
      clear ho3 hb3
      go_wp2
      go_ret2
      exact ⟨a3, c3, rfl, own_base HO3.out HB2.out.size, HB2.out.trans (HB3.out.mono HB2.out.size)⟩
    · have hd : M.dn s = false := by simpa using hd
      have HR := hid (show runRes M.dn M.out (some s) = ([], false) from by unfold runRes; dsimp only; rw [if_neg (by simp [hd])])
      rw [HR.out]
      rw [hd] at HDN
      have hd1 := M.hd
      have cd1 := M.cd
      clear hd
      go_enter Try.func40, Try.ntmps40
      go_wp2_with fail
      refine HF.out.mono ?_
      rintro e w1 ⟨⟨b, rfl, hls⟩, hb1⟩
      have HLS := hid hls
      have HB1 := hid hb1
      clear hls hb1
      go_wp2_with fail
      refine (HDN.out _ _ HLS.out).mono ?_
      rintro e w2 ⟨rfl, hb2⟩
      have HB2 := hid (HB1.out.trans (hb2.mono HB1.out.size))
      clear hb2
      go_wp2
      go_ret2
      exact retLB_nil HB2.out
end Go.Proofs.Ytbncmeggnhggkaa
