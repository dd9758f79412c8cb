/-
  PROVED HERE: what slices.Insert does over writes. CONDITIONS: as each theorem states.
-/
import Derived.Test.YthlmfjoiicnomaaWc
import Derived.Test.YthlmfjoiicnomaaArd
import Derived.Shelf.Spec.SlicesInsertGrow
namespace Go.Proofs.Ythlmfjoiicnomaa
open Go.RowKit
set_option linter.unusedVariables false
set_option linter.unusedSimpArgs false

theorem ins_room {cur cs v : List Value} {N I K : Nat} (hc : cur.take N = cs) (hN : N ≤ cur.length) (hv : v.length = K) (hI : I ≤ N) (hroom : N + K ≤ cur.length) :
    ((cur.take (I + K) ++ cs.drop I ++ cur.drop (I + K + (N - I))).take I ++ v ++ (cur.take (I + K) ++ cs.drop I ++ cur.drop (I + K + (N - I))).drop (I + K)).take (N + K) = cs.take I ++ v ++ cs.drop I ∧
    ((cur.take (I + K) ++ cs.drop I ++ cur.drop (I + K + (N - I))).take I ++ v ++ (cur.take (I + K) ++ cs.drop I ++ cur.drop (I + K + (N - I))).drop (I + K)).length = cur.length ∧
    (cur.take (I + K) ++ cs.drop I ++ cur.drop (I + K + (N - I))).length = cur.length := by
  have hcl : cs.length = N := by rw [← hc, List.length_take]; omega
  have h1 : (cur.take (I + K) ++ cs.drop I ++ cur.drop (I + K + (N - I))).take I = cs.take I := by
    rw [List.append_assoc, List.take_append_of_le_length (by rw [List.length_take]; omega), List.take_take, ← hc, List.take_take]
    congr 1; omega
  have h2 : (cur.take (I + K) ++ cs.drop I ++ cur.drop (I + K + (N - I))).drop (I + K) = cs.drop I ++ cur.drop (I + K + (N - I)) := by
    have hl : (cur.take (I + K)).length = I + K := by rw [List.length_take]; omega
    rw [List.append_assoc, List.drop_append_of_le_length (by omega), List.drop_of_length_le (by omega), List.nil_append]
  rw [h1, h2]
  refine ⟨?_, ?_, ?_⟩
  · rw [← List.append_assoc, List.take_append_of_le_length (by simp only [List.length_append, List.length_take, List.length_drop]; omega), List.take_of_length_le (by simp only [List.length_append, List.length_take, List.length_drop]; omega)]
  · simp only [List.length_append, List.length_take, List.length_drop]; omega
  · simp only [List.length_append, List.length_take, List.length_drop]; omega
theorem ins_grow {row cs v : List Value} {N I K : Nat} (hr : row.take I = cs.take I) (hcl : cs.length = N) (hv : v.length = K) (hI : I ≤ N) (hroom : N + K ≤ row.length) :
    ((row.take I ++ v ++ row.drop (I + K)).take (I + K) ++ cs.drop I ++ (row.take I ++ v ++ row.drop (I + K)).drop (I + K + (N - I))).take (N + K) = cs.take I ++ v ++ cs.drop I ∧
    ((row.take I ++ v ++ row.drop (I + K)).take (I + K) ++ cs.drop I ++ (row.take I ++ v ++ row.drop (I + K)).drop (I + K + (N - I))).length = row.length ∧
    (row.take I ++ v ++ row.drop (I + K)).length = row.length := by
  have h1 : (row.take I ++ v ++ row.drop (I + K)).take (I + K) = cs.take I ++ v := by
    rw [List.take_append_of_le_length (by simp only [List.length_append, List.length_take]; omega), List.take_of_length_le (by simp only [List.length_append, List.length_take]; omega), hr]
  rw [h1]
  refine ⟨?_, ?_, ?_⟩
  · rw [List.take_append_of_le_length (by simp only [List.length_append, List.length_take, List.length_drop]; omega), List.take_of_length_le (by simp only [List.length_append, List.length_take, List.length_drop]; omega)]
  · simp only [List.length_append, List.length_take, List.length_drop]; omega
  · simp only [List.length_append, List.length_take, List.length_drop]; omega
theorem Try.info_write : (Try.prog.info? 114).map (fun i => (i.zero, i.size, i.bytes)) = some (some (.agg #[.int .u8 0, .bool false, .int .u8 0, .int .u8 0, .int .u8 0]), 5, 5) := by kernel_rfl
theorem setRow_of_copy {w : World} {g : Nat} {cur : Array Value} {T : TypeId} (hg : w.heap[g]? = some (.cells cur T (0, 0))) (l : List Value) : (w.setRow g l.toArray).heap[g]? = some (.cells l.toArray T (0, 0)) := setRow_heap w g cur _ T _ hg
/-- What Insert gives. -/
def InsR (w : World) (base : Nat) (a : Option Addr) (n : Nat) (cs : List Value) (e : Ending) (w' : World) : Prop :=
  ∃ a' c', e = .returned (.slice a' (n + 1) c') ∧ w'.ownsRow base 114 5 (.slice a' (n + 1) c') (n + 1) cs ∧ Keeps (fun b => blk a = some b) w w' ∧ ∀ b, blk a' = some b → blk a = some b ∨ w.heap.size ≤ b
set_option maxRecDepth 100000 in
set_option maxHeartbeats 1600000 in
theorem insEnd_c (w : World) (base : Nat) (a : Option Addr) (n c vb : Nat) (cs v : List Value) (hO : w.ownsRow base 114 5 (.slice a n c) n cs) (hn : n ≤ 100) (hv : w.heap[vb]? = some (.cells v.toArray 114 (0, 0))) (hvl : v.length = 5) (h1 : ∀ u ∈ v, u.oneCell' = true) (hbase : base ≤ w.heap.size) (hnc : n ≤ c) :
    Calls Try.prog 144 #[.slice a n c, .int .i64 n, .slice (some ⟨vb, 0, none⟩) 1 1] w (InsR w base a n (cs ++ v)) := by
  have HO := hid hO
  have HV := hid (show Rd w (some ⟨vb, 0, none⟩) v from .inr ⟨vb, 0, rfl, (Array.getElem?_eq_some_iff.1 hv).1, fun j u hj => by rw [Nat.zero_add]; exact cell_L hv hj⟩)
  have H1 := hid h1
  have HL := hid hvl
  clear hO hv hvl h1
  go_enter Try.func144, Try.ntmps144
  go_wp2_with (at_builtin; refine wpList_append_rd rfl (.tmp 23) (.tmp 24) 107 rfl base 114 (.agg #[.int .u8 0, .bool false, .int .u8 0, .int .u8 0, .int .u8 0]) 5 5 Try.underlying107 Try.info_write rfl (by decide) _ _ _ rfl HO.out (some ⟨vb, 0, none⟩) 1 1 v rfl HV.out (by rw [HL.out]) H1.out (by omega) (by decide) hbase ?_)
  all_goals
    intro v5 w5 hown5 hgrow5 hat5
    obtain ⟨a5, c5, rfl, _⟩ := own_shape hown5
    have HO5 := hid hown5
    have HG5 := hid hgrow5
    have HA5 := hid hat5
    clear hown5 hgrow5 hat5
    go_wp2_with fail
    go_ret
    have h5 := HA5.out
    rw [ownBlock_slice, ownBlock_slice] at h5
    have hg5 := HG5.out
    rw [ownBlock_slice] at hg5
    exact ⟨a5, c5, rfl, HO5.out, Keeps.of_grown hg5 (fun k hk => hk), fun b hb => by
      rcases h5 with e | e
      · exact .inl (by rw [← e]; exact hb)
      · rw [e] at hb; exact .inr (by have := Option.some.inj hb; omega)⟩
theorem srcs_of {w : World} {g : Nat} {C : List Value} {T : TypeId} (h : w.heap[g]? = some (.cells C.toArray T (0, 0))) {cs : List Value} {N I : Nat} (hc : C.take N = cs) : ∀ j v, (cs.drop I)[j]? = some v → w.cell? ((⟨g, I, none⟩ : Addr).add j) = some v := fun j v hj => by
  rw [Addr.add_lit]
  refine cell_L h ?_
  rw [List.getElem?_drop, ← hc, List.getElem?_take] at hj
  split at hj
  · exact hj
  · cases hj
set_option maxRecDepth 100000 in
set_option maxHeartbeats 1600000 in
theorem insRoom_c (w : World) (base g n c i vb : Nat) (cs v C : List Value) (hg : w.heap[g]? = some (.cells C.toArray 114 (0, 0))) (hC : C.length = c * 5) (ht : C.take (n * 5) = cs) (hi : i < n) (hroom : n + 1 ≤ c) (hcm : c ≤ maxLen) (hn : n ≤ 100) (hbg : base ≤ g)
    (hv : w.heap[vb]? = some (.cells v.toArray 114 (0, 0))) (hvl : v.length = 5) (h1 : ∀ u ∈ v, u.oneCell' = true) (h1c : ∀ u ∈ cs, u.oneCell' = true) (hne : vb ≠ g) :
    Calls Try.prog 144 #[.slice (some ⟨g, 0, none⟩) n c, .int .i64 i, .slice (some ⟨vb, 0, none⟩) 1 1] w (InsR w base (some ⟨g, 0, none⟩) n (cs.take (i * 5) ++ v ++ cs.drop (i * 5))) := by
  have hcl : cs.length = n * 5 := by rw [← ht, List.length_take]; omega
  have hcmx : c ≤ 9223372036854775807 := by unfold maxLen at hcm; omega
  obtain ⟨p1, p2, p3⟩ := ins_room (cur := C) (cs := cs) (v := v) (N := n * 5) (I := i * 5) (K := 5) ht (by omega) hvl (by omega) (by omega)
  have hsz : (Try.prog.info? 114).map (·.size) = some 5 := by kernel_rfl
  have hov : ∀ lb cb, (callFunc 147 #[.slice (some ⟨vb, 0, none⟩) 1 1, .slice (some ⟨g, (i + 1) * 5, none⟩) lb cb]).run Try.prog w = .ok (.value (.bool false)) w := fun lb cb => by
    rw [run_callFunc_extern Try.func147 (by kernel_rfl) (by kernel_rfl) (by kernel_rfl) (e := Extern.SlicesOverlaps.overlaps #[107, 107] #[4]) (by kernel_rfl),
      Lib.run_overlaps_apart w 107 4 114 Try.underlying107 5 Try.sizeOf114 ⟨vb, 0, none⟩ ⟨g, (i + 1) * 5, none⟩ 1 1 lb cb hne 114 114 5 (c * 5) (by simp [World.shape?, hv, hvl]) (by simp [World.shape?, hg, hC]) (by omega) (by simp [World.frozen?, hv]) (by simp [World.frozen?, hv])]
    rfl
  have hb4 : ¬ (c = i) := by omega
  have hb2 : ¬ (c = i + 1) := by omega
  have hb1 : (0 : Int) ≤ (i : Int) + 1 := by omega
  have htn : ((i : Int) + 1).toNat = i + 1 := by omega
  have htn2 : ((n : Int) + 1).toNat = n + 1 := by omega
  have hb5 : (i : Int) ≤ (n : Int) + 1 := by omega
  have hb6 : (i : Int) ≤ (n : Int) := by omega
  have hz2 : ¬ ((i : Int) = (n : Int)) := by omega
  have hz3 : ¬ ((c : Int) < (n : Int) + 1) := by omega
  have hz5 : (n : Int) + 1 ≤ (c : Int) := by omega
  obtain ⟨C1, hC1⟩ : ∃ C1, C1 = C.take (i * 5 + 5) ++ cs.drop (i * 5) ++ C.drop (i * 5 + 5 + (n * 5 - i * 5)) := ⟨_, rfl⟩
  rw [← hC1] at p1 p2 p3
  obtain ⟨C2, hC2⟩ : ∃ C2, C2 = C1.take (i * 5) ++ v ++ C1.drop (i * 5 + 5) := ⟨_, rfl⟩
  rw [← hC2] at p1 p2
  have HCP1 := hid (fun (W : World) (hW : W.heap[g]? = some (.cells C.toArray 114 (0, 0))) ty dc sc => show (Builtin.copy_ #[107, 107] ty #[.slice (some ⟨g, (i + 1) * 5, none⟩) (n - i) dc, .slice (some ⟨g, i * 5, none⟩) (n + 1 - i) sc]).run Try.prog W = .ok (goInt (Nat.min (n + 1 - i) (n - i))) (W.setRow g C1.toArray) from by
    rw [run_copy_rowN W _ _ ty 114 g ((i + 1) * 5) (n - i) dc ⟨g, i * 5, none⟩ (n + 1 - i) sc 5 C.toArray 114 (cs.drop (i * 5)) Try.underlying107 hsz hW (by rw [List.length_drop, hcl]; show _ = (min (n + 1 - i) (n - i)) * 5; omega) (srcs_of hW ht) (by rw [List.length_drop, hcl]; simp; omega) (fun u hu => h1c u (List.mem_of_mem_drop hu))]
    rw [hC1, List.length_drop, hcl, show (i + 1) * 5 = i * 5 + 5 by omega])
  have HCP2 := hid (fun (W : World) (hW : W.heap[g]? = some (.cells C1.toArray 114 (0, 0))) (hW2 : W.heap[vb]? = some (.cells v.toArray 114 (0, 0))) ty dc => show (Builtin.copy_ #[107, 107] ty #[.slice (some ⟨g, i * 5, none⟩) (n + 1 - i) dc, .slice (some ⟨vb, 0, none⟩) 1 1]).run Try.prog W = .ok (goInt (Nat.min 1 (n + 1 - i))) (W.setRow g C2.toArray) from by
    rw [run_copy_rowN W _ _ ty 114 g (i * 5) (n + 1 - i) dc ⟨vb, 0, none⟩ 1 1 5 C1.toArray 114 v Try.underlying107 hsz hW (by rw [hvl]; show 5 = (min 1 (n + 1 - i)) * 5; omega) (fun j u hj => by rw [Addr.add_lit, Nat.zero_add]; exact cell_L hW2 hj) (by rw [hvl]; simp; omega) h1]
    rw [hC2, hvl])
  have HP1 := hid p1
  have HP2 := hid p2
  have HG := hid hg
  have HV := hid hv
  have HCC := hid hC
  clear hg hv hC1 hC2 p1 p2 p3 hC ht h1 h1c hsz
  go_enter Try.func144, Try.ntmps144
  go_wp2_with (simp only [hov])
  refine wp_region_mix (by kernel_rfl) (by kernel_rfl) ?_
  go_wp2_with (first | (with_reducible refine wpMix_nil ?_) | (with_reducible refine wpMix_rd rfl rfl (fun K hK => ?_); go_simp; (try go_bits); refine hK _ ?_; clear hK K))
  refine wpMix_act rfl rfl (fun K hK => ?_)
  refine wp_copy_runI _ (.tmp 73) (.tmp 76) 107 107 rfl (.slice (some ⟨g, (i + 1) * 5, none⟩) (n - i) (c - (i + 1))) (.slice (some ⟨g, i * 5, none⟩) (n + 1 - i) (c - i)) rfl rfl (HCP1.out w.drew HG.out _ _ _) ?_
  have HG1 := hid (setRow_of_copy (w := w.drew) HG.out C1)
  have hk1 := keeps_setRow w.drew g C1.toArray
  have hvb : vb < w.heap.size := (Array.getElem?_eq_some_iff.1 HV.out).1
  have HV1 := hid ((hk1.block vb hvb (fun e => hne e)).trans HV.out)
  have HK1 := hid ((Keeps.of_below (below_drewN 1 (Below.refl w.heap.size w))).trans hk1)
  refine hK _ _ ?_
  clear hK K
  (with_reducible refine wpMix_nil ?_)
  have hcp2 := HCP2.out (w.drew.setRow g C1.toArray) HG1.out HV1.out 3 (c - i)
  go_wp2_with (simp only [hcp2])
  have HG2 := hid (setRow_of_copy (w := w.drew.setRow g C1.toArray) HG1.out C2)
  have HK2 := hid (HK1.out.trans (keeps_setRow (w.drew.setRow g C1.toArray) g C2.toArray))
  go_ret
  have e1 : (n + 1) * 5 = n * 5 + 5 := by omega
  exact ⟨_, _, rfl, ⟨by simp only [List.length_append, List.length_take, List.length_drop, hcl, hvl]; omega, .inr ⟨g, c, C2.toArray, rfl, hbg, HG2.out, hroom, hcm, by rw [List.size_toArray, HP2.out, HCC.out], by rw [e1]; simpa using HP1.out⟩⟩, HK2.out.mono (fun b e => by rw [e]; rfl), fun b hb => .inl hb⟩
set_option maxRecDepth 100000 in
set_option maxHeartbeats 1600000 in
theorem insGrow_c (w : World) (base g n i vb : Nat) (cs v C : List Value) (hg : w.heap[g]? = some (.cells C.toArray 114 (0, 0))) (hC : C.length = n * 5) (ht : C.take (n * 5) = cs) (hi : i < n) (hn : n ≤ 100) (hbase : base ≤ w.heap.size)
    (hv : w.heap[vb]? = some (.cells v.toArray 114 (0, 0))) (hvl : v.length = 5) (h1 : ∀ u ∈ v, u.oneCell' = true) (h1c : ∀ u ∈ cs, u.oneCell' = true) :
    Calls Try.prog 144 #[.slice (some ⟨g, 0, none⟩) n n, .int .i64 i, .slice (some ⟨vb, 0, none⟩) 1 1] w (InsR w base (some ⟨g, 0, none⟩) n (cs.take (i * 5) ++ v ++ cs.drop (i * 5))) := by
  have hcl : cs.length = n * 5 := by rw [← ht, List.length_take]; omega
  have hsz : (Try.prog.info? 114).map (·.size) = some 5 := by kernel_rfl
  obtain ⟨i0, hi0, hz0, hzs, hzb⟩ := info_parts Try.info_write
  have hgl : g < w.heap.size := (Array.getElem?_eq_some_iff.1 hg).1
  have hvb : vb < w.heap.size := (Array.getElem?_eq_some_iff.1 hv).1
  have hold : (Builtin.firstCells i0.size i (.slice (some ⟨g, 0, none⟩) i n)).run Try.prog w.drew = .ok (cs.take (i * 5)).toArray w.drew := by
    rw [hzs]
    exact run_firstCells_some w.drew 5 i ⟨g, 0, none⟩ i n (cs.take (i * 5)) (by rw [List.length_take]; omega) (fun j v hj => by
      rw [Addr.add_lit, Nat.zero_add]
      refine cell_L (w := w.drew) hg ?_
      rw [List.getElem?_take, ← ht, List.getElem?_take] at hj
      split at hj
      · split at hj
        · exact hj
        · cases hj
      · cases hj)
  have hik : i + (n + 1 - i) = n + 1 := by omega
  have hkk : (n : Int) + 1 - (i : Int) = ((n + 1 - i : Nat) : Int) := by omega
  obtain ⟨G, hG⟩ : ∃ G, G = grownCap w (n + 1) n 114 := ⟨_, rfl⟩
  have hGn : n + 1 ≤ G := by rw [hG]; exact grownCap_ge w _ _ _
  have hGm : G ≤ maxLen := by rw [hG]; exact grownCap_le_maxLen w _ _ _ (by unfold maxLen; omega)
  obtain ⟨R0, hR0⟩ : ∃ R0 : List Value, R0 = ((cs.take (i * 5)).toArray ++ Builtin.zeroCells (Value.agg #[.int .u8 0, .bool false, .int .u8 0, .int .u8 0, .int .u8 0]).cells (n + 1 - i) ++ Builtin.zeroCells (Value.agg #[.int .u8 0, .bool false, .int .u8 0, .int .u8 0, .int .u8 0]).cells (G - (n + 1))).toList := ⟨_, rfl⟩
  have hrz : ∀ ty, (Builtin.append_ #[107, 3] ty #[.slice (some ⟨g, 0, none⟩) i n, .int .i64 ((n : Int) + 1 - (i : Int))]).run Try.prog w = .ok (.slice (some ⟨w.heap.size, 0, none⟩) (n + 1) G) (w.drew.alloc (.cells R0.toArray 114)) := fun ty => by
    have h := Lib.run_append_grow_zeros w 107 3 ty 114 i0 _ .i64 .i64 Try.underlying107 Try.underlying3 hi0 hz0 (some ⟨g, 0, none⟩) i n (cs.take (i * 5)) hold (n + 1 - i) (by omega) (by omega) (by omega) (by omega) (by rw [hzb]; omega) (by rw [hzb, hik]; exact growslice_fits (by omega) (by omega))
    rw [hik, ← hG] at h
    rw [hkk, hR0, Array.toArray_toList]
    exact h
  have hRt : R0.take (i * 5) = cs.take (i * 5) := by
    rw [hR0]
    simp only [Array.toList_append, List.append_assoc]
    rw [List.take_append_of_le_length (by simp; omega), List.take_of_length_le (by simp; omega)]
  have hRl : R0.length = G * 5 := by
    rw [hR0]
    simp [Builtin.zeroCells, Value.cells]
    omega
  obtain ⟨p1, p2, p3⟩ := ins_grow (row := R0) (cs := cs) (v := v) (N := n * 5) (I := i * 5) (K := 5) hRt hcl hvl (by omega) (by omega)
  obtain ⟨R1, hR1⟩ : ∃ R1, R1 = R0.take (i * 5) ++ v ++ R0.drop (i * 5 + 5) := ⟨_, rfl⟩
  rw [← hR1] at p1 p2 p3
  obtain ⟨R2, hR2⟩ : ∃ R2, R2 = R1.take (i * 5 + 5) ++ cs.drop (i * 5) ++ R1.drop (i * 5 + 5 + (n * 5 - i * 5)) := ⟨_, rfl⟩
  rw [← hR2] at p1 p2
  obtain ⟨H, hH⟩ : ∃ H, H = w.heap.size := ⟨_, rfl⟩
  have HCPA := hid (fun (W : World) (hW : W.heap[H]? = some (.cells R0.toArray 114 (0, 0))) (hW2 : W.heap[vb]? = some (.cells v.toArray 114 (0, 0))) ty dc => show (Builtin.copy_ #[107, 107] ty #[.slice (some ⟨H, i * 5, none⟩) (n + 1 - i) dc, .slice (some ⟨vb, 0, none⟩) 1 1]).run Try.prog W = .ok (goInt (Nat.min 1 (n + 1 - i))) (W.setRow H R1.toArray) from by
    rw [run_copy_rowN W _ _ ty 114 H (i * 5) (n + 1 - i) dc ⟨vb, 0, none⟩ 1 1 5 R0.toArray 114 v Try.underlying107 hsz hW (by rw [hvl]; show 5 = (min 1 (n + 1 - i)) * 5; omega) (fun j u hj => by rw [Addr.add_lit, Nat.zero_add]; exact cell_L hW2 hj) (by rw [hvl]; simp; omega) h1]
    rw [hR1, hvl])
  have HCPB := hid (fun (W : World) (hW : W.heap[H]? = some (.cells R1.toArray 114 (0, 0))) (hW2 : W.heap[g]? = some (.cells C.toArray 114 (0, 0))) ty dc sc => show (Builtin.copy_ #[107, 107] ty #[.slice (some ⟨H, (i + 1) * 5, none⟩) (n - i) dc, .slice (some ⟨g, i * 5, none⟩) (n - i) sc]).run Try.prog W = .ok (goInt (Nat.min (n - i) (n - i))) (W.setRow H R2.toArray) from by
    rw [run_copy_rowN W _ _ ty 114 H ((i + 1) * 5) (n - i) dc ⟨g, i * 5, none⟩ (n - i) sc 5 R1.toArray 114 (cs.drop (i * 5)) Try.underlying107 hsz hW (by rw [List.length_drop, hcl]; show _ = (min (n - i) (n - i)) * 5; omega) (srcs_of hW2 ht) (by rw [List.length_drop, hcl]; simp; omega) (fun u hu => h1c u (List.mem_of_mem_drop hu))]
    rw [hR2, List.length_drop, hcl, show (i + 1) * 5 = i * 5 + 5 by omega])
  have hn4 : (w.drew.alloc (.cells R0.toArray 114)).heap[H]? = some (.cells R0.toArray 114 (0, 0)) := by rw [hH]; exact heap_alloc_new w.drew _
  have hb1 : Below w.heap.size w (w.drew.alloc (.cells R0.toArray 114)) := (below_drewN 1 (Below.refl w.heap.size w)).alloc (Nat.le_refl _) _
  obtain ⟨W1, hW1⟩ : ∃ W1, W1 = w.drew.alloc (.cells R0.toArray 114) := ⟨_, rfl⟩
  rw [← hW1, ← hH] at hrz
  rw [← hW1] at hn4 hb1
  have HN := hid hn4
  have hvn : vb ≠ H := by omega
  have hgn : g ≠ H := by omega
  have HV1 := hid ((hb1.block vb hvb).trans hv)
  have HG1 := hid ((hb1.block g hgl).trans hg)
  have hcpa := HCPA.out W1 HN.out HV1.out 3 (G - i)
  have hk2 := keeps_setRow W1 H R1.toArray
  have HN2 := hid (setRow_of_copy (w := W1) HN.out R1)
  have hg1 : g < W1.heap.size := Nat.lt_of_lt_of_le hgl hb1.size
  have HG2 := hid ((hk2.block g hg1 (fun e => hgn e)).trans HG1.out)
  have HB2 := hid (show Below w.heap.size w (W1.setRow H R1.toArray) from Proofs.Ythlmfjoiicnomaa.Below.keeps hb1 hk2 hb1.size (fun x e => by omega))
  have HN3 := hid (setRow_of_copy (w := (W1.setRow H R1.toArray).drew) HN2.out R2)
  have HB3 := hid (show Below w.heap.size w ((W1.setRow H R1.toArray).drew.setRow H R2.toArray) from Proofs.Ythlmfjoiicnomaa.Below.keeps (below_drewN 1 HB2.out) (keeps_setRow (W1.setRow H R1.toArray).drew H R2.toArray) HB2.out.size (fun x e => by omega))
  have HP1 := hid p1
  have HP2 := hid p2
  have HP3 := hid p3
  have HRL := hid hRl
  have HBG := hid (show base ≤ H by omega)
  have HHW := hid hH
  clear hg hv hR0 hRt hRl hR1 hR2 p1 p2 p3 hC ht h1 h1c hsz hold hn4 hb1 hW1 hH hk2 hz0 hzs hzb hi0 hik hkk hG
  have hb4 : ¬ (n = i) := by omega
  have hb1 : (0 : Int) ≤ (i : Int) + 1 := by omega
  have htn : ((i : Int) + 1).toNat = i + 1 := by omega
  have hb6 : (i : Int) ≤ (n : Int) := by omega
  have hz2 : ¬ ((i : Int) = (n : Int)) := by omega
  have hz3 : (n : Int) < (n : Int) + 1 := by omega
  have hz5 : (i : Int) + 1 ≤ (n : Int) + 1 := by omega
  have hGi : ¬ (G = i) := by omega
  have hGi1 : ¬ (G = i + 1) := by omega
  have hG63 : G ≤ 9223372036854775807 := by unfold maxLen at hGm; omega
  have hz6 : (i : Int) ≤ (n : Int) + 1 := by omega
  go_enter Try.func144, Try.ntmps144
  go_wp2_with (first | (at_builtin; refine Lib.wpList_append_run _ rfl _ _ _ _ rfl _ _ rfl rfl _ _ (hrz _) ?_) | simp only [hcpa])
  refine wp_region_mix (by kernel_rfl) (by kernel_rfl) ?_
  go_wp2_with (first | (with_reducible refine wpMix_nil ?_) | (with_reducible refine wpMix_rd rfl rfl (fun K hK => ?_); go_simp; (try go_bits); refine hK _ ?_; clear hK K))
  refine wpMix_act rfl rfl (fun K hK => ?_)
  refine wp_copy_runI _ (.tmp 50) (.tmp 53) 107 107 rfl (.slice (some ⟨H, (i + 1) * 5, none⟩) (n - i) (G - (i + 1))) (.slice (some ⟨g, i * 5, none⟩) (n - i) (n - i)) rfl rfl (HCPB.out (W1.setRow H R1.toArray).drew HN2.out HG2.out _ _ _) ?_
  refine hK _ _ ?_
  clear hK K
  (with_reducible refine wpMix_nil ?_)
  go_wp2
  go_ret
  have e1 : (n + 1) * 5 = n * 5 + 5 := by omega
  exact ⟨_, _, rfl, ⟨by simp only [List.length_append, List.length_take, List.length_drop, hcl, hvl]; omega, .inr ⟨H, G, R2.toArray, rfl, HBG.out, HN3.out, hGn, hGm, by rw [List.size_toArray, HP2.out, HRL.out], by rw [e1]; simpa using HP1.out⟩⟩, Keeps.of_below HB3.out, fun b hb => .inr (by
    have : H = b := by simpa [blk] using hb
    have := HHW.out
    omega)⟩
/-- Insert, where the row is the call's own. -/
theorem insertW_c (w : World) (base : Nat) (a : Option Addr) (n c i vb : Nat) (r : List Ms) (m : Ms) (hO : w.ownsRow base 114 5 (.slice a n c) n (wcells r)) (hr : V3 r) (hrl : r.length = n) (hm : m.view.length = 3) (hi : i ≤ n) (hn : n ≤ 100) (hbase : base ≤ w.heap.size)
    (hv : w.heap[vb]? = some (.cells (wcell m).toArray 114 (0, 0))) (hne : ∀ b, blk a = some b → vb ≠ b) :
    Calls Try.prog 144 #[.slice a n c, .int .i64 i, .slice (some ⟨vb, 0, none⟩) 1 1] w (InsR w base a n (wcells (r.take i ++ [m] ++ r.drop i))) := by
  have hvl : (wcell m).length = 5 := by simp [wcell, hm]
  have h1 : ∀ u ∈ wcell m, u.oneCell' = true := fun u hu => wcells_one [m] u (by simpa [wcells] using hu)
  have e0 : wcells (r.take i ++ [m] ++ r.drop i) = (wcells r).take (i * 5) ++ wcell m ++ (wcells r).drop (i * 5) := by
    rw [wcells_append, wcells_append, wcells_take i hr, wcells_drop i hr]
    simp [wcells]
  have hwl := wcells_len hr
  rw [e0]
  by_cases e : i = n
  · subst e
    have hnc : i ≤ c := own_cap hO
    rw [List.take_of_length_le (by omega), List.drop_of_length_le (by omega), List.append_nil]
    exact insEnd_c w base a i c vb _ _ hO hn hv hvl h1 hbase hnc
  · rcases hO.2 with ⟨_, h0⟩ | ⟨g, cap', cur, he, hg, hb, hc, hcm, hs, ht⟩
    · omega
    · simp only [Value.slice.injEq, true_and] at he
      obtain ⟨rfl, rfl⟩ := he
      have hb' : w.heap[g]? = some (.cells cur.toList.toArray 114 (0, 0)) := by simpa using hb
      by_cases hroom : n + 1 ≤ c
      · exact insRoom_c w base g n c i vb _ _ cur.toList hb' (by simpa using hs) ht (by omega) hroom hcm hn hg hv hvl h1 (wcells_one r) (hne g rfl)
      · obtain rfl : c = n := by omega
        exact insGrow_c w base g c i vb _ _ cur.toList hb' (by simpa using hs) ht (by omega) hn hbase hv hvl h1 (wcells_one r)
end Go.Proofs.Ythlmfjoiicnomaa
