/-
  PROVED HERE: laws.FnFormatRel returns true for every input, and each argument reads behind the call as it read before. CONDITIONS: none.
-/
import Derived.Test.YtmeoclkngjboiaaDoorFrel
import Derived.Test.YtmeoclkngjboiaaDoorInts
import Derived.Test.YtmeoclkngjboiaaDoorRelI
import Derived.Test.YtmeoclkngjboiaaDoorDraws
import Derived.ShutString
import Derived.ProofKit
import Derived.LaidMore
import Derived.Stop.Joined
import Derived.SevenTiedAt
import Derived.Test.YtmeoclkngjboiaaDoorTie
import Derived.Test.YtmeoclkngjboiaaDoorCards
import Derived.ChangeOld
namespace Go.Proofs.YtmeoclkngjboiaaDoor.fnFormatRel
open Go.ChangeShapes Go.WideShapes Go.ChangeAt Go.RowKit
open Go.ChangeMaps (open_string shut_string)
set_option linter.unusedVariables false
open Go.Proofs.YtmeoclkngjboiaaDoor
theorem own : ownKnob Tryd.prog.godebug = none := by kernel_rfl
theorem laidOut : laidOutB Tryd.prog = true := by kernel_rfl


/-- How many bytes '>' a text has. -/
def gts (l : List UInt8) : Nat := l.countP (· == 62)
theorem gts_dec : ∀ n < 16, gts (Lib.decDigits n) = 0 := by decide +kernel
theorem gts_pair {i k : Nat} (hi : i ≤ 15) (hk : k ≤ 15) : gts (FR.pairL i k) = 1 := by
  have h1 := gts_dec i (by omega)
  have h2 := gts_dec k (by omega)
  unfold gts at *
  unfold FR.pairL
  rw [List.countP_append, List.countP_append, h1, h2]
  rfl
theorem gts_snoc {ws : List (List UInt8)} {y : List UInt8} (h : gts (Lib.join ws [32]) = ws.length) (hy : gts y = 1) : gts (Lib.join (ws ++ [y]) [32]) = (ws ++ [y]).length := by
  rw [FR.join_snoc, List.length_append]
  unfold gts at *
  rw [List.countP_append, hy]
  by_cases h0 : 0 < ws.length
  · rw [if_pos h0, List.countP_append, h]
    rfl
  · rw [if_neg h0]
    have : ws.length = 0 := by omega
    rw [this]
    rfl
theorem gts_row {ns : List Nat} {i : Nat} (hi : i ≤ 15) {ws : List (List UInt8)} (h : gts (Lib.join ws [32]) = ws.length) : ∀ k, k ≤ 16 → gts (Lib.join (ws ++ FR.rowW ns i k) [32]) = (ws ++ FR.rowW ns i k).length
  | 0, _ => by simpa [FR.rowW] using h
  | k + 1, hk => by
    have ih := gts_row (ns := ns) hi h k (by omega)
    by_cases hb : (ns.getD i 0).testBit k = true
    · have e : FR.rowW ns i (k + 1) = FR.rowW ns i k ++ [FR.pairL i k] := by simp only [FR.rowW, hb, if_true]
      rw [e, ← List.append_assoc]
      exact gts_snoc ih (gts_pair hi (by omega))
    · have e : FR.rowW ns i (k + 1) = FR.rowW ns i k := by
        simp only [FR.rowW, hb]
        simp
      rw [e]
      exact ih
theorem gts_rel {ns : List Nat} (hn : ns.length ≤ 16) : ∀ i, i ≤ 16 → gts (Lib.join (FR.relW ns i) [32]) = (FR.relW ns i).length
  | 0, _ => rfl
  | i + 1, hi => gts_row (by omega) (gts_rel hn i (by omega)) ns.length hn
theorem len_row (ns : List Nat) (i : Nat) : ∀ k, (FR.rowW ns i k).length = popUpto k (ns.getD i 0)
  | 0 => by rw [pop_zero]; rfl
  | k + 1 => by
    rw [pop_succ, ← len_row ns i k]
    simp only [FR.rowW]
    rw [List.length_append]
    split <;> simp
theorem len_rel (ns : List Nat) : ∀ i, i ≤ ns.length → (FR.relW ns i).length = cntUpto i ns
  | 0, _ => rfl
  | i + 1, hi => by
    have hx : ns[i]? = some ns[i] := List.getElem?_eq_getElem (by omega)
    rw [cnt_succ hx, ← len_rel ns i (by omega)]
    simp only [FR.relW]
    rw [List.length_append, len_row]
    have : ns.getD i 0 = ns[i] := by simp [List.getD, hx]
    rw [this]
theorem gts_fmt (xs : List Int) : gts (FR.fmtR xs).data.toList = countF xs := by
  by_cases hv : relValid xs = true
  · obtain ⟨us, rfl, ho⟩ := ok_of_valid hv
    rw [FR.fmtR_yes ho, countF_yes ho]
    show gts (Lib.join (FR.relW us us.length) [32]) = _
    rw [gts_rel ho.len _ ho.len, len_rel us _ (Nat.le_refl _)]
    rfl
  · have hv : relValid xs = false := by simpa using hv
    rw [FR.fmtR_no hv, countF_no hv]
    rfl
theorem size_fmt (xs : List Int) : (FR.fmtR xs).size ≤ 1632 := by
  by_cases hv : relValid xs = true
  · obtain ⟨us, rfl, ho⟩ := ok_of_valid hv
    rw [FR.fmtR_yes ho, FR.ba_size]
    exact FR.relW_text ho.len ho.len
  · have hv : relValid xs = false := by simpa using hv
    rw [FR.fmtR_no hv]
    exact Nat.zero_le _
def gtTo (s : ByteArray) (k : Nat) : Nat := gts (s.data.toList.take k)
theorem gtTo_all (s : ByteArray) : gtTo s s.size = gts s.data.toList := by
  unfold gtTo
  rw [List.take_of_length_le]
  rw [Array.length_toList]
  exact Nat.le_refl _
theorem gtTo_succ (s : ByteArray) (k : Nat) (h : k < s.size) : gtTo s (k + 1) = gtTo s k + if s[k].toNat = 62 then 1 else 0 := by
  have hl : k < s.data.toList.length := by rw [Array.length_toList]; exact h
  have e : s.data.toList[k] = s[k] := by rw [Array.getElem_toList]; rfl
  unfold gtTo gts
  rw [List.take_succ_eq_append_getElem hl, List.countP_append, e]
  congr 1
  by_cases h62 : s[k].toNat = 62
  · have : s[k] = 62 := UInt8.toNat_inj.1 (by rw [h62]; rfl)
    rw [if_pos h62, this]
    rfl
  · have : s[k] ≠ 62 := fun hh => h62 (by rw [hh]; rfl)
    rw [if_neg h62]
    simp [this]
theorem gtTo_le (s : ByteArray) (k : Nat) : gtTo s k ≤ k := by
  unfold gtTo gts
  exact Nat.le_trans List.countP_le_length (by rw [List.length_take]; omega)

theorem walkBig (w : World) (a0 : Option Addr) (cap0 : Nat) (bs0 : List Int) (h0 : Rd w a0 (bytes bs0)) (f0 : ∀ n ∈ bs0, (Lit.int .u8 n).wf = true) (d0 : bs0.length ≤ cap0 ∧ cap0 ≤ 9223372036854775807) (hb : 1048576 < bs0.length) :
    Calls Tryd.prog 6 #[.slice a0 bs0.length cap0] w fun e w' => e = .returned (.bool true) ∧ Below w.heap.size w w' := by
  clear h0 f0 d0
  have g : (1048576 : Int) < bs0.length := by omega
  go_enter Tryd.func6, Tryd.ntmps6
  go_wp2
  go_ret
  exact ⟨rfl, Below.refl _ _⟩

set_option maxHeartbeats 1600000 in
theorem walkSmall (w : World) (a0 : Option Addr) (cap0 : Nat) (bs0 : List Int) (h0 : Rd w a0 (bytes bs0)) (f0 : ∀ n ∈ bs0, (Lit.int .u8 n).wf = true) (d0 : bs0.length ≤ cap0 ∧ cap0 ≤ 9223372036854775807) (s0 : bs0.length ≤ 1048576) :
    Calls Tryd.prog 6 #[.slice a0 bs0.length cap0] w fun e w' => e = .returned (.bool true) ∧ Below w.heap.size w w' := by
  have g0 : decide ((1048576 : Int) < bs0.length) = false := by simp; omega
  have DA0 : DrawArgs w a0 cap0 bs0 := ⟨h0, byte_wf f0, s0, d0.1, d0.2⟩
  have CD0 := hid (fun (w1 : World) (hb : Below w.heap.size w w1) => drawFormatRel_c w1 a0 cap0 bs0 (DA0.below hb))
  clear h0 f0 d0 s0 DA0
  have B0 : Below w.heap.size w w := Below.refl _ _
  go_enter Tryd.func6, Tryd.ntmps6
  go_wp2_with fail
  refine (CD0.out _ B0).mono ?_
  rintro e w1 ⟨xs, ⟨a_x, c_x, rfl, o_x, b1⟩, l_xs⟩
  replace o_x := own_up o_x B0.size
  have B1 : Below w.heap.size w w1 := B0.trans (b1.mono B0.size)
  have HI := fun (w : World) (a1 : Option Addr) (c1 : Nat) (h1 : Rd w a1 (ints xs)) => FR.frI_c w a1 c1 xs h1 (by omega)
  have HS := fun (w : World) (a1 : Option Addr) (c1 : Nat) (h1 : Rd w a1 (ints xs)) => FR.frS_c w a1 c1 xs h1 (by omega)
  have HCI := fun (w : World) (a1 : Option Addr) (c1 : Nat) (h1 : Rd w a1 (ints xs)) => implCount_c w a1 c1 xs h1 (by omega)
  have HCS := fun (w : World) (a1 : Option Addr) (c1 : Nat) (h1 : Rd w a1 (ints xs)) => specCount_c w a1 c1 xs h1 (by omega)
  have HG := gts_fmt xs
  have HZ := size_fmt xs
  obtain ⟨T, hT⟩ : ∃ T, T = FR.fmtR xs := ⟨_, rfl⟩
  rw [← hT] at HI HS HG HZ
  rw [← gtTo_all] at HG
  rw [← HG] at HCI HCS
  replace HI := hid HI
  replace HS := hid HS
  replace HCI := hid HCI
  replace HCS := hid HCS
  clear hT HG
  go_wp2_with fail
  refine (HI.out _ _ _ (Rd.own o_x)).mono ?_
  rintro e w2 ⟨rfl, b2⟩
  have O2 := hid (own_below o_x b2)
  have B2 := hid (B1.trans (b2.mono B1.size))
  clear o_x b2 B1 b1 B0
  go_wp2
  go_loop [5, 6] (fun c i => ∃ k : Nat, k ≤ T.size ∧ i = .int .i64 k ∧ c = .int .i64 (gtTo T k : Nat)) (fun _ i => T.size - (intOf i).toNat)
  case atStart => exact ⟨0, Nat.zero_le _, rfl, rfl⟩
  case round =>
    obtain ⟨k, hk, rfl, rfl⟩ := hrel
    have hgl := gtTo_le T k
    by_cases hlt : k < T.size
    · have hst := gtTo_succ T k hlt
      obtain ⟨G, hG⟩ : ∃ G, G = gtTo T k := ⟨_, rfl⟩
      rw [← hG] at hgl hst ⊢
      clear hG
      by_cases h62 : T[k].toNat = 62
      · rw [if_pos h62] at hst
        have HST := hid hst
        clear hst
        have e1 : ((T[k].toNat : Int) == (62 : Int)) = true := by rw [h62]; rfl
        clear h62
        go_wp2_with fail
        go_round
        case rel => exact ⟨k + 1, by omega, by go_num, by rw [HST.out]; go_num⟩
        case measure => simp [intOf]; omega
      · rw [if_neg h62] at hst
        have HST := hid hst
        clear hst
        have e1 : ((T[k].toNat : Int) == (62 : Int)) = false := by simp; omega
        clear h62
        go_wp2_with fail
        go_round
        case rel => exact ⟨k + 1, by omega, by go_num, by rw [HST.out]; rfl⟩
        case measure => simp [intOf]; omega
    · have HK := hid (show k = T.size by omega)
      rw [HK.out]
      rw [HK.out] at hgl
      obtain ⟨G, hG⟩ : ∃ G, G = gtTo T T.size := ⟨_, rfl⟩
      rw [← hG] at hgl HCI HCS ⊢
      clear hG
      go_wp2_with fail
      refine (HS.out _ _ _ (Rd.own O2.out)).mono ?_
      rintro e w3 ⟨rfl, b3⟩
      have B3 := hid (B2.out.trans (b3.mono B2.out.size))
      have O3 := hid (own_below O2.out b3)
      clear b3
      go_wp2_with fail
      refine (HCI.out _ _ _ (Rd.own O3.out)).mono ?_
      rintro e w4 ⟨rfl, b4⟩
      have B4 := hid (B3.out.trans (b4.mono B3.out.size))
      have O4 := hid (own_below O3.out b4)
      clear b4
      go_wp2_with fail
      refine (HCS.out _ _ _ (Rd.own O4.out)).mono ?_
      rintro e w5 ⟨rfl, b5⟩
      have B5 := hid (B4.out.trans (b5.mono B4.out.size))
      clear b5
      go_wp2
      go_ret
      exact ⟨rfl, B5.out⟩

theorem walk (w : World) (a0 : Option Addr) (cap0 : Nat) (bs0 : List Int) (h0 : Rd w a0 (bytes bs0)) (f0 : ∀ n ∈ bs0, (Lit.int .u8 n).wf = true) (d0 : bs0.length ≤ cap0 ∧ cap0 ≤ 9223372036854775807) :
    Calls Tryd.prog 6 #[.slice a0 bs0.length cap0] w fun e w' => e = .returned (.bool true) ∧ Below w.heap.size w w' := by
  by_cases hb : 1048576 < bs0.length
  · exact walkBig w a0 cap0 bs0 h0 f0 d0 hb
  · exact walkSmall w a0 cap0 bs0 h0 f0 d0 (by omega)

set_option maxRecDepth 100000 in
theorem door_met (os : Os) (args : Array Value) : laidMetH Tryd.prog Rows.fnFormatRelRow.laid ((World.doorLaid Tryd.prog 400 os).forCall (fun _ _ => 0) ⟨#[], args, []⟩).memory :=
  laidMetH_of_parts3 (fuel := 8) (laidMet_of_run' 8 (by kernel_rfl) (by kernel_rfl)) (by kernel_rfl) (by kernel_rfl)
set_option maxRecDepth 100000 in
theorem lifted (os : Os) (started : os.Started) (H : Type) (enc : TypeId × Value → H) :
    ReturnsInHanded {} Tryd.checked os 6 .any (fun w args => (Rows.fnFormatRelSpec.pre enc Tryd.prog Tryd.f6 [] false w args ∧ laidMetH Tryd.prog Rows.fnFormatRelRow.laid w) ∧ sizedMet enc Tryd.prog Tryd.f6 (OpenSpec.ofChange Rows.fnFormatRelSpec) false w args)
      (Rows.fnFormatRelSpec.post enc Tryd.prog Tryd.f6 false true false false) := by
  refine returnsInHanded_of_change_and (C := Tryd.checked) (X := fun w _ => laidMetH Tryd.prog Rows.fnFormatRelRow.laid w) (fun _ _ _ hh h => h.of_heap hh) own started (by kernel_rfl) Tryd.func6
    (ChangeSpec.witness_shaped (enc := enc) (C := Tryd.checked) (os := os) (X := fun w _ => laidMetH Tryd.prog Rows.fnFormatRelRow.laid w) false (World.doorLaid Tryd.prog 400 os) #[.slice none 0 0] 8 rfl (World.shaped_of_RefB (by kernel_rfl) (by kernel_rfl)) (by kernel_rfl) (by kernel_rfl) (by kernel_rfl) (door_met os _)) ?_
  intro W base args ds gs before hval0 hW hcnd _ hL _
  have hval : ∀ (j : Nat) t v, Tryd.f6.params[j]? = some t → args[j]? = some v → Value.okWide Tryd.prog W .any base t v := hval0
  have hW' := hW
  obtain ⟨p, q, hA0, hV, rfl, hfz, hnd⟩ := hW
  have hA : DataW.TrodAll enc Tryd.prog W 0 (fun _ => true) true Tryd.f6.params.toList args.toList ds p := hA0
  rw [Tryd.params6] at hA hval
  obtain ⟨v0, vs0, d0, ds0, p0, q0, hargs, rfl, rfl, h0, r0⟩ := trodAll_cons hA
  obtain ⟨rfl, rfl, rfl⟩ := trodAll_nil r0
  obtain rfl : args = #[v0] := by cases args; simp_all
  obtain ⟨rfl, rfl⟩ := trodVars_none hV
  obtain ⟨a0, len0, cap0, rfl⟩ := okWide_slice Tryd.underlying28 (hval 0 28 v0 rfl rfl)
  have k0 := h0
  have lt0 : ∀ x ∈ p0, x.block < W.heap.size := by obtain ⟨m, hm⟩ := k0; exact DataW.trod_lt m _ _ _ hm
  obtain ⟨z0, w0⟩ : ∃ zs, IsRow .u8 W a0 len0 cap0 zs := by
    obtain ⟨fuel, hf⟩ := h0
    rcases open_ints Tryd.underlying28 Tryd.underlying5 (by kernel_rfl) hf with ⟨hcs, _⟩ | ⟨x, l, c, zs, hcs, _, hl, hm, hz, _, hcell, hwz⟩
    · simp [Value.cells] at hcs
      obtain ⟨rfl, rfl, rfl⟩ := hcs
      exact ⟨[], .inl ⟨rfl, rfl, rfl, rfl⟩⟩
    · simp [Value.cells] at hcs
      obtain ⟨rfl, rfl, rfl⟩ := hcs
      exact ⟨zs, .inr ⟨_, rfl, hl, hm, by simpa using hz, hcell, hwz⟩⟩
  obtain ⟨x0, hx0, rd0, wf0⟩ := w0.rd
  subst hx0
  have bd0 := w0.cap
  clear hA0 hval0
  refine (walk W a0 cap0 x0 rd0 wf0 bd0).mono fun e W' ⟨he, bel⟩ => ?_
  subst he
  exact ⟨_, rfl, _, _, _, [], _, [], hW', trodAll_mk1 (shut_bool Tryd.underlying4 _), (trodAll_cons_mk (Below.trod laidOut (by kernel_rfl) (of_decide_eq_true (by kernel_rfl)) k0 bel lt0) trodAll_mk0), rfl, bel.frame _, fun h => by cases h⟩

theorem over : Rows.fnFormatRelRow.holds Tryd.pinned (OpenSpec.ofChange Rows.fnFormatRelSpec) :=
  OpenClaim.holds_of_wide 6 Tryd.f6 rfl rfl rfl rfl rfl rfl rfl ⟨rfl, rfl, rfl, rfl, rfl⟩ rfl rfl rfl rfl rfl (by kernel_rfl) Tryd.func6 (by kernel_rfl)
    (of_decide_eq_true (by kernel_rfl)) (by unfold Func.isWrapper; first | (rw [if_pos (by decide +kernel)]; kernel_rfl) | (rw [if_neg (by decide +kernel)]; exact ⟨rfl, rfl⟩))
    (fun os started H enc _ => lifted os started H enc)

theorem proved : Rows.FnFormatRelCardSaid :=
  Claim7.holds_tied_plain_at .later [] [.data, .data, .data] true (true, "b3c79b555e40f8c38fcabaf181c69505ac1baa10c30cdb9882d47fc87dc10240") false
    over (fun _ h => by cases h) (by kernel_rfl) (fun _ h => by cases h) fnFormatRel_row_tie rfl ⟨rfl, rfl⟩ (by kernel_rfl) rfl
    (fun f fn hf hfn => by
      obtain rfl : f = 6 := Option.some.inj ((show Tryd.prog.funcNamed "loop.example/weakmemory/laws.FnFormatRel" = some 6 by kernel_rfl).symm.trans hf) |>.symm
      obtain rfl : fn = Tryd.f6 := (Option.some.inj (Tryd.func6.symm.trans hfn)).symm
      exact ⟨by kernel_rfl, fun j t ht => by
        rw [Tryd.params6] at ht
        have hm : t ∈ [28] := by simpa using Array.mem_of_getElem? ht
        have hall : ([28].all fun u => !Tryd.prog.wantsStandIn u) = true := by kernel_rfl
        exact (show Tryd.prog.wantsStandIn t = false by simpa using List.all_eq_true.1 hall t hm)⟩)
    (by kernel_rfl)
#print axioms proved
end Go.Proofs.YtmeoclkngjboiaaDoor.fnFormatRel
