/-
  PROVED HERE: what slices.Clone, ClosureRel and AcyclicRel of both packages do. CONDITIONS: as each theorem states.
-/
import Derived.Test.YtdppidhnlbfpmaaRelH
import Derived.WalkSpells
namespace Go.Proofs.Ytdppidhnlbfpmaa
open Go.RowKit
set_option linter.unusedVariables false
set_option linter.unusedSimpArgs false

theorem run_append_empty {P : Program} (w : World) (base : Nat) (t ty e : TypeId) (i : TypeInfo) (size : Nat) (ht : P.underlying t = some (.slice e)) (hi : P.info? e = some i) (hsize : i.size = size)
    (v : Value) (n : Nat) (xs : List Value) (hown : w.ownsRow base e size v n xs) (c : Nat) :
    (Builtin.append_ #[t, t] ty #[v, .slice none 0 c]).run P w = .ok v w := by
  rcases hown.2 with ⟨rfl, rfl⟩ | ⟨g, cap, cur, rfl, _, _, hnc, _⟩
  · simp [Builtin.append_, run_underlying ht, sizeOf, typeInfo, hi, Builtin.lenOf, Builtin.firstCells]
  · simp [Builtin.append_, run_underlying ht, sizeOf, typeInfo, hi, Builtin.lenOf, Builtin.firstCells, hnc, storeCells]

/-- 'append(s, x...)', s the call's own, x any slice that can be read: nil or empty too. -/
theorem wpList_append_rd {P : Program} {ops : Array Oper} {Q : Exit → Act → World → Prop} {a : Act} {w : World} {o : Oper} {rest : List Oper} (hgd : o.guard = none) (s x : Operand) (t : TypeId)
    (ho : o.op = .call { callee := .builtin .append, args := #[s, x], argTypes := #[t, t] })
    (base : Nat) (e : TypeId) (z : Value) (bytes : Nat) (ht : P.underlying t = some (.slice e)) (hi : (P.info? e).map (fun i => (i.zero, i.size, i.bytes)) = some (some z, 1, bytes)) (hzs : z.cells.size = 1)
    (v : Value) (n : Nat) (xs : List Value) (hs : a.eval s = v) (hown : w.ownsRow base e 1 v n xs)
    (src : Option Addr) (m c : Nat) (cs : List Value) (hx : a.eval x = .slice src m c) (hrd : Rd w src cs) (hl : cs.length = m) (h1 : ∀ u ∈ cs, u.oneCell' = true)
    (h63 : n + m ≤ 1000000000) (hbytes : bytes ≤ 1000) (hbase : base ≤ w.heap.size)
    (h : ∀ v' w', w'.ownsRow base e 1 v' (n + m) (xs ++ cs) → w.grownBy w' v.ownBlock → wpList P ops Q rest (a.put o.dst v') w') : wpList P ops Q (o :: rest) a w := by
  obtain ⟨i, h2, hz, h3, h4⟩ := info_parts hi
  cases src with
  | some ad =>
    refine wpList_append_own _ hgd s x t ho base e i z 1 bytes ht h2 hz h3 h4 hzs (by omega) v n xs hs hown ad m c cs hx (by omega) ?_ h1 (by unfold maxLen; omega) ?_ hbase fun v' w' h2 h3 _ => h v' w' h2 h3
    · intro j u hj
      rcases hrd with rfl | ⟨b, off, hb, _, hc⟩
      · simp at hj
      · cases hb
        rw [Addr.add_lit]
        exact hc j u hj
    · have : (n + m) * bytes ≤ 1000000000 * 1000 := Nat.mul_le_mul h63 hbytes
      omega
  | none =>
    rcases hrd with rfl | ⟨b, off, hb, _⟩
    · obtain rfl : m = 0 := by simpa using hl.symm
      refine wpList_plain hgd fun K hK => ?_
      have hrun := run_append_empty (P := P) w base t o.type e i 1 ht h2 h3 v n xs hown c
      unfold Oper.wp execOp
      simp only [ho, resolve, invoke, builtin, Sem.run_bind, Sem.run_pure, Result.andThen_ok, List.map_toArray, List.map_cons, List.map_nil, hs, hx, hrun]
      exact hK _ _ (h v w (by simpa using hown) ⟨rfl, rfl, rfl, Nat.le_refl _, fun _ _ _ => rfl⟩)
    · cases hb

theorem natV_oneCell (ns : List Nat) : ∀ u ∈ natV ns, u.oneCell' = true := by
  intro u hu
  obtain ⟨n, _, rfl⟩ := List.mem_map.1 hu
  rfl

theorem clone_c (w : World) (a : Option Addr) (cap : Nat) (ns : List Nat) (h : Rd w a (natV ns)) (hl : ns.length ≤ 1048576) :
    Calls Try.prog 60 #[.slice a ns.length cap] w (RetN w ns) := by
  obtain ⟨n, hn⟩ : ∃ n, n = ns.length := ⟨_, rfl⟩
  unfold RetN
  rw [← hn] at hl ⊢
  have HN := hid hn
  have HR := hid h
  clear hn h
  cases a with
  | none =>
    have hnil := fun (w : World) => Lib.run_eql_slice_nil (P := Try.prog) w 23 3 none n cap 0 0 Try.underlying23
    go_enter Try.func60, Try.ntmps60
    go_wp2
    go_ret
    have h0 : n = 0 := by
      rcases HR.out with h | ⟨b, off, hb, _⟩
      · rw [HN.out, ← length_natV, h]; rfl
      · cases hb
    subst h0
    have : ns = [] := List.eq_nil_of_length_eq_zero HN.out.symm
    subst this
    exact ⟨none, 0, rfl, own_none _ _ _ _, Below.refl _ _⟩
  | some ad =>
    have hnil := fun (w : World) => Lib.run_eql_slice_nil (P := Try.prog) w 23 3 (some ad) n cap 0 0 Try.underlying23
    go_enter Try.func60, Try.ntmps60
    go_wp2_with (at_builtin; refine wpList_append_rd rfl (.tmp 5) (.tmp 6) 23 rfl w.heap.size 3 (.int .i64 0) 8 Try.underlying23 Try.info_int rfl _ _ _ rfl (own_lit0 w w.heap.size 3 (Nat.le_refl _)) _ n cap (natV ns) rfl (HR.out.alloc _) (by rw [length_natV]; exact HN.out.symm) (natV_oneCell ns) (by omega) (by omega) (by simp) ?_)
    intro v1 w1 hown1 hgrow1
    have hown1 : w1.ownsRow w.heap.size 3 1 v1 n (natV ns) := by first | exact hown1 | simpa using hown1
    obtain ⟨a1, c1, rfl, hb1⟩ := own_shape hown1
    have hbel := ((Below.refl w.heap.size w).alloc (Nat.le_refl _) (.cells #[] 3)).grown hgrow1 (by simp) (fun k hk => by simp [Value.ownBlock] at hk; omega)
    clear hgrow1
    go_wp2
    go_ret
    exact ⟨a1, c1, rfl, hown1, hbel⟩

/-- One step of the closure: row i gets row m, if it has m. -/
def wStep (m : Nat) (rs : List Nat) (i : Nat) : List Nat := if bit rs i m then rs.set i (rs.getD i 0 ||| rs.getD m 0) else rs
def cloRow (m k : Nat) (rs : List Nat) : List Nat := (List.range k).foldl (wStep m) rs
def cloUpto (n k : Nat) (rs : List Nat) : List Nat := (List.range k).foldl (fun rs m => cloRow m n rs) rs
def closureN (rs : List Nat) : List Nat := cloUpto rs.length rs.length rs
theorem cloRow_succ (m k : Nat) (rs : List Nat) : cloRow m (k + 1) rs = wStep m (cloRow m k rs) k := by simp [cloRow, List.range_succ]
theorem cloUpto_succ (n k : Nat) (rs : List Nat) : cloUpto n (k + 1) rs = cloRow k n (cloUpto n k rs) := by simp [cloUpto, List.range_succ]
theorem length_wStep (m : Nat) (rs : List Nat) (i : Nat) : (wStep m rs i).length = rs.length := by unfold wStep; split <;> simp
theorem length_cloRow (m k : Nat) (rs : List Nat) : (cloRow m k rs).length = rs.length := by
  induction k with
  | zero => rfl
  | succ k ih => rw [cloRow_succ, length_wStep, ih]
theorem length_cloUpto (n k : Nat) (rs : List Nat) : (cloUpto n k rs).length = rs.length := by
  induction k with
  | zero => rfl
  | succ k ih => rw [cloUpto_succ, length_cloRow, ih]
theorem length_closureN (rs : List Nat) : (closureN rs).length = rs.length := length_cloUpto _ _ _
theorem getD_lt {rs : List Nat} (h : Ok rs) (i : Nat) : rs.getD i 0 < 2 ^ rs.length := by
  by_cases hi : i < rs.length
  · simp only [List.getD, List.getElem?_eq_getElem hi, Option.getD_some]
    exact h.row _ (List.getElem_mem hi)
  · have h0 : rs[i]? = none := List.getElem?_eq_none (by omega)
    have e : rs.getD i 0 = 0 := by simp [List.getD, h0]
    rw [e]
    exact Nat.two_pow_pos _
theorem ok_wStep (m : Nat) {rs : List Nat} (h : Ok rs) (i : Nat) : Ok (wStep m rs i) := by
  unfold wStep
  split
  · exact ok_set h (Nat.or_lt_two_pow (getD_lt h i) (getD_lt h m))
  · exact h
theorem ok_cloRow (m k : Nat) {rs : List Nat} (h : Ok rs) : Ok (cloRow m k rs) := by
  induction k with
  | zero => exact h
  | succ k ih => rw [cloRow_succ]; exact ok_wStep m ih k
theorem ok_cloUpto (n k : Nat) {rs : List Nat} (h : Ok rs) : Ok (cloUpto n k rs) := by
  induction k with
  | zero => exact h
  | succ k ih => rw [cloUpto_succ]; exact ok_cloRow _ _ ih
theorem ok_closure {rs : List Nat} (h : Ok rs) : Ok (closureN rs) := ok_cloUpto _ _ h
theorem wStep_yes {m i x y : Nat} {rs : List Nat} (hb : bit rs i m = true) (hx : rs[i]? = some x) (hy : rs[m]? = some y) : wStep m rs i = rs.set i (x ||| y) := by
  unfold wStep
  rw [if_pos hb]
  simp [List.getD, hx, hy]
theorem wStep_no {m i : Nat} {rs : List Nat} (hb : bit rs i m = false) : wStep m rs i = rs := by
  unfold wStep
  rw [if_neg (by simp [hb])]

set_option maxHeartbeats 800000 in
theorem l2Closure_c (w : World) (a : Option Addr) (cap : Nat) (ns : List Nat) (h : Rd w a (natV ns)) (ho : Ok ns) :
    Calls Try.prog 61 #[.slice a ns.length cap] w (RetN w (closureN ns)) := by
  have C := hid (fun (w : World) (a : Option Addr) (cap : Nat) (rs : List Nat) (i k : Nat) h ho hi hk => l2Has_c w a cap rs i k h ho hi hk)
  have hlen := ho.len
  obtain ⟨n, hn⟩ : ∃ n, n = ns.length := ⟨_, rfl⟩
  have HP := hid (fun e w' (h : ∃ a cap, e = .returned (.slice a n cap) ∧ w'.ownsRow w.heap.size 3 1 (.slice a n cap) n (natV (cloUpto n n ns)) ∧ Below w.heap.size w w') => (show RetN w (closureN ns) e w' by
    unfold RetN
    rw [length_closureN, ← hn]
    have e1 : closureN ns = cloUpto n n ns := by unfold closureN; rw [← hn]
    rw [e1]; exact h))
  rw [← hn] at hlen ⊢
  refine Calls.mono ?_ (fun e w' h => HP.out e w' h)
  clear HP
  have HR := hid h
  have HN := hid hn
  have HNO := hid ho
  clear h ho hn
  go_enter Try.func61, Try.ntmps61
  go_wp2_with (at_builtin; refine wpList_append_rd rfl (.tmp 6) (.tmp 7) 23 rfl w.heap.size 3 (.int .i64 0) 8 Try.underlying23 Try.info_int rfl _ _ _ rfl (own_lit0 w w.heap.size 3 (Nat.le_refl _)) _ n cap (natV ns) rfl (HR.out.alloc _) (by rw [length_natV]; exact HN.out.symm) (natV_oneCell ns) (by omega) (by omega) (by simp) ?_)
  intro v1 w1 hown1 hgrow1
  have hown1 : w1.ownsRow w.heap.size 3 1 v1 n (natV ns) := by first | exact hown1 | simpa using hown1
  obtain ⟨a1, c1, rfl, hb1⟩ := own_shape hown1
  have hbel1 := ((Below.refl w.heap.size w).alloc (Nat.le_refl _) (.cells #[] 3)).grown hgrow1 (by simp) (fun k hk => by simp [Value.ownBlock] at hk; omega)
  clear hgrow1 hb1
  go_wp2
  go_loopw [4] (fun i wr => ∃ (k : Nat) (rs : List Nat), k ≤ n ∧ i = .int .i64 k ∧ wr.ownsRow w.heap.size 3 1 (.slice a1 n c1) n (natV rs) ∧ Ok rs ∧ rs.length = n ∧ rs = cloUpto n k ns ∧ Below w.heap.size w wr) (fun i _ => n - (intOf i).toNat)
  case atStart => exact ⟨0, ns, Nat.zero_le _, rfl, hown1, HNO.out, HN.out.symm, rfl, hbel1⟩
  case round =>
    clear hown1 hbel1
    obtain ⟨k, rs, hk, rfl, hown, hok, hrl, heq, hbel⟩ := hrel
    have HB := hid heq
    have HO := hid hok
    have HL := hid hrl
    clear heq hok hrl
    by_cases hlt : k < n
    · obtain ⟨wo, rfl⟩ : ∃ wo : World, wo = wr := ⟨_, rfl⟩
      go_wp2
      go_loopw [5] (fun j wr => ∃ (m : Nat) (ss : List Nat), m ≤ n ∧ j = .int .i64 m ∧ wr.ownsRow w.heap.size 3 1 (.slice a1 n c1) n (natV ss) ∧ Ok ss ∧ ss.length = n ∧ ss = cloRow k m rs ∧ Below w.heap.size w wr) (fun j _ => n - (intOf j).toNat)
      case atStart => exact ⟨0, rs, Nat.zero_le _, rfl, hown, HO.out, HL.out, rfl, hbel⟩
      case round =>
        clear hown hbel
        obtain ⟨m, ss, hm, rfl, hown, hok, hsl, heq, hbel⟩ := hrel
        have HSB := hid heq
        have HSO := hid hok
        have HSL := hid hsl
        clear heq hok hsl
        by_cases hlm : m < n
        · obtain ⟨g, rfl, hg1, hg2⟩ := own_some hown (by omega)
          have Cm := hid (C.out wr _ c1 ss m k (Rd.own hown) HSO.out (by rw [HSL.out]; exact hlm) (by omega))
          rw [HSL.out] at Cm
          by_cases hbt : bit ss m k = true
          · rw [show (ss.getD m 0).testBit k = true from hbt] at Cm
            obtain ⟨x, hx⟩ : ∃ x, ss[m]? = some x := ⟨_, List.getElem?_eq_getElem (by have := HSL.out; omega)⟩
            obtain ⟨y, hy⟩ : ∃ y, ss[k]? = some y := ⟨_, List.getElem?_eq_getElem (by have := HSL.out; omega)⟩
            have hcell := (hown.cellAt m (by omega)).trans (at_natV hx)
            have hcell' := (hown.cellAt k (by omega)).trans (at_natV hy)
            have hfo := hown.frozenAt m
            have hst := hown.stored m (.int .i64 (x ||| y : Nat))
            rw [natV_set] at hst
            have hbor := bits_or_i64 x y (HSO.out.at? hx) (HSO.out.at? hy)
            have HS := hid hst
            have HX := hid (wStep_yes hbt hx hy)
            have hk' : (k : Int) < n := by omega
            have hm' : (m : Int) < n := by omega
            clear hst hx hy hown
            go_wp2_with fail
            refine Cm.out.mono ?_
            rintro e w3 ⟨rfl, rfl⟩
            go_wp2_with fail
            refine wp_region_mix (by kernel_rfl) (by kernel_rfl) ?_
            go_wp2_with (first | (with_reducible refine wpMix_nil ?_) | (with_reducible refine wpMix_rd rfl rfl (fun K hK => ?_); go_simp; (try go_bits); refine hK _ ?_; clear hK K) | (with_reducible refine wpMix_act (o := ⟨_, .store _ _ _, _, _, _, _⟩) rfl rfl (fun K hK => ?_)))
            go_roundw
            case rel =>
              refine ⟨m + 1, ss.set m (x ||| y), by omega, by go_num, HS.out.1, ?_, by rw [List.length_set]; exact HSL.out, by rw [cloRow_succ, ← HSB.out, HX.out], hbel.drew.setCell hg1 _⟩
              rw [← HX.out]; exact ok_wStep _ HSO.out _
            case measure => simp [intOf]; omega
          · have hbt : bit ss m k = false := by simpa using hbt
            rw [show (ss.getD m 0).testBit k = false from hbt] at Cm
            have HX := hid (wStep_no hbt)
            go_wp2_with fail
            refine Cm.out.mono ?_
            rintro e w2 ⟨rfl, rfl⟩
            go_wp2
            go_roundw
            case rel => exact ⟨m + 1, ss, by omega, by go_num, hown, HSO.out, HSL.out, by rw [cloRow_succ, ← HSB.out, HX.out], hbel⟩
            case measure => simp [intOf]; omega
        · go_wp2
          go_roundw
          case rel => exact ⟨k + 1, ss, by omega, by go_num, hown, HSO.out, HSL.out, by rw [cloUpto_succ, ← HB.out, HSB.out, show m = n by omega], hbel⟩
          case measure => simp [intOf]; omega
    · go_wp2
      go_ret
      have hkn : k = n := by omega
      exact ⟨_, _, rfl, by rw [← hkn] at HB; rw [HB.out, hkn] at hown; exact hown, hbel⟩

set_option maxHeartbeats 800000 in
theorem implClosureYes_c (w : World) (a : Option Addr) (cap : Nat) (ns : List Nat) (h : Rd w a (natV ns)) (ho : Ok ns) :
    Calls Try.prog 26 #[.slice a ns.length cap] w (RetN w (closureN ns)) := by
  have C := hid (fun (w : World) (a : Option Addr) (cap : Nat) (rs : List Nat) (i k : Nat) h ho hi hk => related_c w a cap rs i k h ho hi hk)
  have C1 := hid (relValidI_c w a cap (castI ns) (by rw [ints_castI]; exact h) (by rw [length_castI]; have := ho.len; omega))
  rw [valid_castI ho, length_castI] at C1
  have C2 := hid (fun (w : World) h => clone_c w a cap ns h (by have := ho.len; omega))
  unfold RetN at C2
  have hlen := ho.len
  obtain ⟨n, hn⟩ : ∃ n, n = ns.length := ⟨_, rfl⟩
  have HP := hid (fun e w' (h : ∃ a cap, e = .returned (.slice a n cap) ∧ w'.ownsRow w.heap.size 3 1 (.slice a n cap) n (natV (cloUpto n n ns)) ∧ Below w.heap.size w w') => (show RetN w (closureN ns) e w' by
    unfold RetN
    rw [length_closureN, ← hn]
    have e1 : closureN ns = cloUpto n n ns := by unfold closureN; rw [← hn]
    rw [e1]; exact h))
  rw [← hn] at C1 C2
  rw [← hn] at hlen ⊢
  refine Calls.mono ?_ (fun e w' h => HP.out e w' h)
  clear HP
  have HR := hid h
  have HN := hid hn
  have HNO := hid ho
  clear h ho hn
  go_enter Try.func26, Try.ntmps26
  go_wp2_with fail
  refine C1.out.mono ?_
  rintro e w0 ⟨rfl, hb0⟩
  go_wp2_with fail
  refine (C2.out w0 (HR.out.below hb0)).mono ?_
  rintro e w1 ⟨a1, c1, rfl, hown1, hb1⟩
  have hown1 := own_after hown1 hb0
  have hbel1 := hb0.trans (hb1.mono hb0.size)
  clear hb1
  go_wp2
  go_loopw [13] (fun i wr => ∃ (k : Nat) (rs : List Nat), k ≤ n ∧ i = .int .i64 k ∧ wr.ownsRow w.heap.size 3 1 (.slice a1 n c1) n (natV rs) ∧ Ok rs ∧ rs.length = n ∧ rs = cloUpto n k ns ∧ Below w.heap.size w wr) (fun i _ => n - (intOf i).toNat)
  case atStart => exact ⟨0, ns, Nat.zero_le _, rfl, hown1, HNO.out, HN.out.symm, rfl, hbel1⟩
  case round =>
    clear hown1 hbel1
    obtain ⟨k, rs, hk, rfl, hown, hok, hrl, heq, hbel⟩ := hrel
    have HB := hid heq
    have HO := hid hok
    have HL := hid hrl
    clear heq hok hrl
    by_cases hlt : k < n
    · obtain ⟨wo, rfl⟩ : ∃ wo : World, wo = wr := ⟨_, rfl⟩
      go_wp2
      go_loopw [18] (fun j wr => ∃ (m : Nat) (ss : List Nat), m ≤ n ∧ j = .int .i64 m ∧ wr.ownsRow w.heap.size 3 1 (.slice a1 n c1) n (natV ss) ∧ Ok ss ∧ ss.length = n ∧ ss = cloRow k m rs ∧ Below w.heap.size w wr) (fun j _ => n - (intOf j).toNat)
      case atStart => exact ⟨0, rs, Nat.zero_le _, rfl, hown, HO.out, HL.out, rfl, hbel⟩
      case round =>
        clear hown hbel
        obtain ⟨m, ss, hm, rfl, hown, hok, hsl, heq, hbel⟩ := hrel
        have HSB := hid heq
        have HSO := hid hok
        have HSL := hid hsl
        clear heq hok hsl
        by_cases hlm : m < n
        · obtain ⟨g, rfl, hg1, hg2⟩ := own_some hown (by omega)
          have Cm := hid (C.out wr _ c1 ss m k (Rd.own hown) HSO.out (by rw [HSL.out]; exact hlm) (by omega))
          rw [HSL.out] at Cm
          by_cases hbt : bit ss m k = true
          · rw [show (ss.getD m 0).testBit k = true from hbt] at Cm
            obtain ⟨x, hx⟩ : ∃ x, ss[m]? = some x := ⟨_, List.getElem?_eq_getElem (by have := HSL.out; omega)⟩
            obtain ⟨y, hy⟩ : ∃ y, ss[k]? = some y := ⟨_, List.getElem?_eq_getElem (by have := HSL.out; omega)⟩
            have hcell := (hown.cellAt m (by omega)).trans (at_natV hx)
            have hcell' := (hown.cellAt k (by omega)).trans (at_natV hy)
            have hfo := hown.frozenAt m
            have hst := hown.stored m (.int .i64 (x ||| y : Nat))
            rw [natV_set] at hst
            have hbor := bits_or_i64 x y (HSO.out.at? hx) (HSO.out.at? hy)
            have HS := hid hst
            have HX := hid (wStep_yes hbt hx hy)
            have hk' : (k : Int) < n := by omega
            have hm' : (m : Int) < n := by omega
            clear hst hx hy hown
            go_wp2_with fail
            refine Cm.out.mono ?_
            rintro e w3 ⟨rfl, rfl⟩
            go_wp2_with fail
            refine wp_region_mix (by kernel_rfl) (by kernel_rfl) ?_
            go_wp2_with (first | (with_reducible refine wpMix_nil ?_) | (with_reducible refine wpMix_rd rfl rfl (fun K hK => ?_); go_simp; (try go_bits); refine hK _ ?_; clear hK K) | (with_reducible refine wpMix_act (o := ⟨_, .store _ _ _, _, _, _, _⟩) rfl rfl (fun K hK => ?_)))
            go_roundw
            case rel =>
              refine ⟨m + 1, ss.set m (x ||| y), by omega, by go_num, HS.out.1, ?_, by rw [List.length_set]; exact HSL.out, by rw [cloRow_succ, ← HSB.out, HX.out], hbel.drew.setCell hg1 _⟩
              rw [← HX.out]; exact ok_wStep _ HSO.out _
            case measure => simp [intOf]; omega
          · have hbt : bit ss m k = false := by simpa using hbt
            rw [show (ss.getD m 0).testBit k = false from hbt] at Cm
            have HX := hid (wStep_no hbt)
            go_wp2_with fail
            refine Cm.out.mono ?_
            rintro e w2 ⟨rfl, rfl⟩
            go_wp2
            go_roundw
            case rel => exact ⟨m + 1, ss, by omega, by go_num, hown, HSO.out, HSL.out, by rw [cloRow_succ, ← HSB.out, HX.out], hbel⟩
            case measure => simp [intOf]; omega
        · go_wp2
          go_roundw
          case rel => exact ⟨k + 1, ss, by omega, by go_num, hown, HSO.out, HSL.out, by rw [cloUpto_succ, ← HB.out, HSB.out, show m = n by omega], hbel⟩
          case measure => simp [intOf]; omega
    · go_wp2
      go_ret
      have hkn : k = n := by omega
      exact ⟨_, _, rfl, by rw [← hkn] at HB; rw [HB.out, hkn] at hown; exact hown, hbel⟩

theorem specClosure_c (w : World) (a : Option Addr) (cap : Nat) (xs : List Int) (h : Rd w a (ints xs)) (hl : xs.length ≤ 1048576) :
    Calls Try.prog 27 #[.slice a xs.length cap] w (RetI w (lift1 closureN xs)) := by
  have C1 := hid (relValidS_c w a cap xs h hl)
  by_cases hv : relValid xs = true
  · rw [hv] at C1
    obtain ⟨us, rfl, ho⟩ := ok_of_valid hv
    rw [lift1_yes ho]
    rw [ints_castI] at h
    rw [length_castI] at C1 ⊢
    have C2 := hid (fun w h => l2Closure_c w a cap us h ho)
    have H1 := hid h
    refine Calls.mono (R := RetN w (closureN us)) ?_ (fun e w' h => h.castI)
    clear h hv hl ho
    go_enter Try.func27, Try.ntmps27
    go_wp2_with fail
    refine C1.out.mono ?_
    rintro e w1 ⟨rfl, hb1⟩
    go_wp2_with fail
    refine (C2.out _ (H1.out.below hb1)).mono ?_
    rintro e w2 ⟨a2, cap2, rfl, hown2, hb2⟩
    go_wp2
    go_ret
    exact ⟨a2, cap2, rfl, own_after hown2 hb1, hb1.trans (hb2.mono hb1.size)⟩
  · have hv : relValid xs = false := by simpa using hv
    rw [hv] at C1
    rw [lift1_no hv]
    refine Calls.mono (R := fun e w' => ∃ w1, e = .returned (.slice (some ⟨w1.heap.size, 0, none⟩) 0 0) ∧ w' = w1.alloc (.cells #[] 3) ∧ Below w.heap.size w w1) ?_ (fun e w' h => by
      obtain ⟨w1, rfl, rfl, hb⟩ := h
      exact ⟨_, _, rfl, own_lit0 w1 w.heap.size _ hb.size, hb.alloc hb.size _⟩)
    clear hv
    go_enter Try.func27, Try.ntmps27
    go_wp2_with fail
    refine C1.out.mono ?_
    rintro e w1 ⟨rfl, hb1⟩
    go_wp2
    go_ret
    exact ⟨w1, rfl, rfl, hb1⟩

theorem implClosure_c (w : World) (a : Option Addr) (cap : Nat) (xs : List Int) (h : Rd w a (ints xs)) (hl : xs.length ≤ 1048576) :
    Calls Try.prog 26 #[.slice a xs.length cap] w (RetI w (lift1 closureN xs)) := by
  by_cases hv : relValid xs = true
  · obtain ⟨us, rfl, ho⟩ := ok_of_valid hv
    rw [lift1_yes ho]
    rw [ints_castI] at h
    rw [length_castI]
    exact (implClosureYes_c w a cap us h ho).mono fun e w' h => h.castI
  · have hv : relValid xs = false := by simpa using hv
    have C1 := hid (relValidI_c w a cap xs h hl)
    rw [hv] at C1
    rw [lift1_no hv]
    refine Calls.mono (R := fun e w' => e = .returned (.slice none 0 0) ∧ Below w.heap.size w w') ?_ (fun e w' h => ⟨none, 0, h.1, own_none _ _ _ _, h.2⟩)
    clear hv h
    go_enter Try.func26, Try.ntmps26
    go_wp2_with fail
    refine C1.out.mono ?_
    rintro e w1 ⟨rfl, hb1⟩
    go_wp2
    go_ret
    exact ⟨rfl, hb1⟩

end Go.Proofs.Ytdppidhnlbfpmaa
