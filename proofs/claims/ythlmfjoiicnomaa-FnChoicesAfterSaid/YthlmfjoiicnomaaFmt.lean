/-
  PROVED HERE: what spec.l1Text, impl.instrText and FormatInstr of both packages do. CONDITIONS: as each theorem states.
-/
import Derived.Test.YthlmfjoiicnomaaTxt
import Derived.Test.YthlmfjoiicnomaaOpn
namespace Go.Proofs.Ythlmfjoiicnomaa
open Go.RowKit
set_option linter.unusedVariables false
set_option linter.unusedSimpArgs false

/-- The text of an instruction. -/
def insTxt (x : Ins) : ByteArray :=
  if x.op = 1 then chr 97 x.reg.toNat ++ ⟨#[61]⟩ ++ chr 120 x.loc.toNat
  else if x.op = 2 then chr 120 x.loc.toNat ++ ⟨#[61]⟩ ++ chr 48 x.val.toNat
  else if x.op = 3 then chr 120 x.loc.toNat ++ ⟨#[61]⟩ ++ chr 97 x.reg.toNat
  else if x.op = 5 then chr 97 x.reg.toNat ++ ⟨#[61]⟩ ++ chr 120 x.loc.toNat ++ ⟨#[58]⟩ ++ chr 48 x.val.toNat
  else ⟨#[102, 101, 110, 99, 101]⟩
theorem ins_nat {x : Ins} (h : insValid x = true) : ∃ o l r v : Nat, x = ⟨o, l, r, v⟩ ∧ (o = 1 ∨ o = 2 ∨ o = 3 ∨ o = 4 ∨ o = 5) ∧ l ≤ 2 ∧ r ≤ 2 ∧ v ≤ 3 := by
  obtain ⟨o, l, r, v⟩ := x
  have key : (o = 1 ∨ o = 2 ∨ o = 3 ∨ o = 4 ∨ o = 5) ∧ 0 ≤ l ∧ l ≤ 2 ∧ 0 ≤ r ∧ r ≤ 2 ∧ 0 ≤ v ∧ v ≤ 3 := by
    unfold insValid at h
    simp only [in01] at h
    split at h
    · simp at h; omega
    · split at h
      · simp at h; omega
      · split at h
        · simp at h; omega
        · split at h
          · simp at h; omega
          · cases h
  refine ⟨o.toNat, l.toNat, r.toNat, v.toNat, ?_, by omega, by omega, by omega, by omega⟩
  have e1 : ((o.toNat : Nat) : Int) = o := by omega
  have e2 : ((l.toNat : Nat) : Int) = l := by omega
  have e3 : ((r.toNat : Nat) : Int) = r := by omega
  have e4 : ((v.toNat : Nat) : Int) = v := by omega
  rw [e1, e2, e3, e4]

theorem slice_x (w : World) (ρ : Operand → Value) (o : Oper) (s t : Operand) (l : Nat) (hl : l ≤ 2) (ho : o.op = .slice 9 (.const (.string ⟨#[120, 121, 122]⟩)) (some s) (some t) none) (hs : ρ s = .int .i64 l) (ht : ρ t = .int .i64 (l + 1)) (hc : ∀ v, ρ (.const v) = v) :
    (execOp ρ o).run Try.prog w = .ok (.value (.string (chr 120 l))) w := by
  unfold execOp
  rw [ho]
  match l, hl with
  | 0, _ =>
    simp [hs, ht, hc, go_sem, Try.underlying9]
    rfl
  | 1, _ =>
    simp [hs, ht, hc, go_sem, Try.underlying9]
    rfl
  | 2, _ =>
    simp [hs, ht, hc, go_sem, Try.underlying9]
    rfl
theorem slice_a (w : World) (ρ : Operand → Value) (o : Oper) (s t : Operand) (l : Nat) (hl : l ≤ 2) (ho : o.op = .slice 9 (.const (.string ⟨#[97, 98, 99]⟩)) (some s) (some t) none) (hs : ρ s = .int .i64 l) (ht : ρ t = .int .i64 (l + 1)) (hc : ∀ v, ρ (.const v) = v) :
    (execOp ρ o).run Try.prog w = .ok (.value (.string (chr 97 l))) w := by
  unfold execOp
  rw [ho]
  match l, hl with
  | 0, _ =>
    simp [hs, ht, hc, go_sem, Try.underlying9]
    rfl
  | 1, _ =>
    simp [hs, ht, hc, go_sem, Try.underlying9]
    rfl
  | 2, _ =>
    simp [hs, ht, hc, go_sem, Try.underlying9]
    rfl
theorem slice_0 (w : World) (ρ : Operand → Value) (o : Oper) (s t : Operand) (l : Nat) (hl : l ≤ 3) (ho : o.op = .slice 9 (.const (.string ⟨#[48, 49, 50, 51, 52, 53, 54, 55, 56, 57]⟩)) (some s) (some t) none) (hs : ρ s = .int .i64 l) (ht : ρ t = .int .i64 (l + 1)) (hc : ∀ v, ρ (.const v) = v) :
    (execOp ρ o).run Try.prog w = .ok (.value (.string (chr 48 l))) w := by
  unfold execOp
  rw [ho]
  match l, hl with
  | 0, _ =>
    simp [hs, ht, hc, go_sem, Try.underlying9]
    rfl
  | 1, _ =>
    simp [hs, ht, hc, go_sem, Try.underlying9]
    rfl
  | 2, _ =>
    simp [hs, ht, hc, go_sem, Try.underlying9]
    rfl
  | 3, _ =>
    simp [hs, ht, hc, go_sem, Try.underlying9]
    rfl

theorem txt1 (l r v : Nat) : insTxt ⟨(1 : Nat), l, r, v⟩ = chr 97 r ++ ⟨#[61]⟩ ++ chr 120 l := rfl
theorem txt2 (l r v : Nat) : insTxt ⟨(2 : Nat), l, r, v⟩ = chr 120 l ++ ⟨#[61]⟩ ++ chr 48 v := rfl
theorem txt3 (l r v : Nat) : insTxt ⟨(3 : Nat), l, r, v⟩ = chr 120 l ++ ⟨#[61]⟩ ++ chr 97 r := rfl
theorem txt4 (l r v : Nat) : insTxt ⟨(4 : Nat), l, r, v⟩ = ⟨#[102, 101, 110, 99, 101]⟩ := rfl
theorem txt5 (l r v : Nat) : insTxt ⟨(5 : Nat), l, r, v⟩ = chr 97 r ++ ⟨#[61]⟩ ++ chr 120 l ++ ⟨#[58]⟩ ++ chr 48 v := rfl

set_option maxHeartbeats 800000 in
theorem text1_c (w : World) (l r v : Nat) (hl : l ≤ 2) (hr : r ≤ 2) (hv3 : v ≤ 3) : Calls Try.prog 104 #[.agg #[.int .i64 1, .int .i64 l, .int .i64 r, .int .i64 v]] w fun e w' => e = .returned (.string (insTxt ⟨(1 : Nat), l, r, v⟩)) ∧ Below w.heap.size w w' := by
  have HL := hid (fun w => letter_x w l hl)
  have HR := hid (fun w => letter_a w r hr)
  have HV := hid (fun w => dec_c w v (by omega))
  have HT := hid (txt1 l r v)
  obtain ⟨L, eL⟩ : ∃ L, L = chr 120 l := ⟨_, rfl⟩
  obtain ⟨R, eR⟩ : ∃ R, R = chr 97 r := ⟨_, rfl⟩
  obtain ⟨V, eV⟩ : ∃ V, V = chr 48 v := ⟨_, rfl⟩
  rw [← eL] at HL
  rw [← eR] at HR
  rw [← eV] at HV
  rw [← eL, ← eR] at HT
  have sL : L.size ≤ 1 := by rw [eL]; exact Nat.le_refl _
  have sR : R.size ≤ 1 := by rw [eR]; exact Nat.le_refl _
  have sV : V.size ≤ 1 := by rw [eV]; exact Nat.le_refl _
  clear eL eR eV hl hr hv3
  have HB0 := hid ((Below.refl w.heap.size w).alloc (Nat.le_refl _) (.cells #[.int .i64 1, .int .i64 l, .int .i64 r, .int .i64 v] 70))
  have HX := hid (Box.new w ⟨1, l, r, v⟩ 70)
  go_enter Try.func104, Try.ntmps104
  go_wp2_with fail
  refine (HL.out _).mono ?_
  rintro e w1 ⟨rfl, hb1⟩
  have HX1 := hid (HX.out.below hb1 (by simp))
  have HB1 := hid (HB0.out.trans (hb1.mono HB0.out.size))
  obtain ⟨y0, y1, y2, y3⟩ := HX1.out
  simp only [] at y0 y1 y2 y3
  clear hb1
  go_wp2_with fail
  refine (HR.out _).mono ?_
  rintro e w2 ⟨rfl, hb2⟩
  have HX2 := hid (HX1.out.below hb2 (World.block_lt_of_cell? _ _ HX1.out.1))
  have HB2 := hid (HB1.out.trans (hb2.mono HB1.out.size))
  clear y0 y1 y2 y3 hb2
  obtain ⟨y0, y1, y2, y3⟩ := HX2.out
  simp only [] at y0 y1 y2 y3
  go_wp2
  go_ret
  exact ⟨ret_str HT.out.symm, HB2.out⟩
set_option maxHeartbeats 800000 in
theorem text2_c (w : World) (l r v : Nat) (hl : l ≤ 2) (hr : r ≤ 2) (hv3 : v ≤ 3) : Calls Try.prog 104 #[.agg #[.int .i64 2, .int .i64 l, .int .i64 r, .int .i64 v]] w fun e w' => e = .returned (.string (insTxt ⟨(2 : Nat), l, r, v⟩)) ∧ Below w.heap.size w w' := by
  have HL := hid (fun w => letter_x w l hl)
  have HR := hid (fun w => letter_a w r hr)
  have HV := hid (fun w => dec_c w v (by omega))
  have HT := hid (txt2 l r v)
  obtain ⟨L, eL⟩ : ∃ L, L = chr 120 l := ⟨_, rfl⟩
  obtain ⟨R, eR⟩ : ∃ R, R = chr 97 r := ⟨_, rfl⟩
  obtain ⟨V, eV⟩ : ∃ V, V = chr 48 v := ⟨_, rfl⟩
  rw [← eL] at HL
  rw [← eR] at HR
  rw [← eV] at HV
  rw [← eL, ← eV] at HT
  have sL : L.size ≤ 1 := by rw [eL]; exact Nat.le_refl _
  have sR : R.size ≤ 1 := by rw [eR]; exact Nat.le_refl _
  have sV : V.size ≤ 1 := by rw [eV]; exact Nat.le_refl _
  clear eL eR eV hl hr hv3
  have HB0 := hid ((Below.refl w.heap.size w).alloc (Nat.le_refl _) (.cells #[.int .i64 2, .int .i64 l, .int .i64 r, .int .i64 v] 70))
  have HX := hid (Box.new w ⟨2, l, r, v⟩ 70)
  go_enter Try.func104, Try.ntmps104
  go_wp2_with fail
  refine (HL.out _).mono ?_
  rintro e w1 ⟨rfl, hb1⟩
  have HX1 := hid (HX.out.below hb1 (by simp))
  have HB1 := hid (HB0.out.trans (hb1.mono HB0.out.size))
  obtain ⟨y0, y1, y2, y3⟩ := HX1.out
  simp only [] at y0 y1 y2 y3
  clear hb1
  go_wp2_with fail
  refine (HR.out _).mono ?_
  rintro e w2 ⟨rfl, hb2⟩
  have HX2 := hid (HX1.out.below hb2 (World.block_lt_of_cell? _ _ HX1.out.1))
  have HB2 := hid (HB1.out.trans (hb2.mono HB1.out.size))
  clear y0 y1 y2 y3 hb2
  obtain ⟨y0, y1, y2, y3⟩ := HX2.out
  simp only [] at y0 y1 y2 y3
  go_wp2_with fail
  refine (HV.out _).mono ?_
  rintro e w3 ⟨rfl, hb3⟩
  have HB3 := hid (HB2.out.trans (hb3.mono HB2.out.size))
  clear y0 y1 y2 y3 hb3
  go_wp2
  go_ret
  exact ⟨ret_str HT.out.symm, HB3.out⟩
set_option maxHeartbeats 800000 in
theorem text3_c (w : World) (l r v : Nat) (hl : l ≤ 2) (hr : r ≤ 2) (hv3 : v ≤ 3) : Calls Try.prog 104 #[.agg #[.int .i64 3, .int .i64 l, .int .i64 r, .int .i64 v]] w fun e w' => e = .returned (.string (insTxt ⟨(3 : Nat), l, r, v⟩)) ∧ Below w.heap.size w w' := by
  have HL := hid (fun w => letter_x w l hl)
  have HR := hid (fun w => letter_a w r hr)
  have HV := hid (fun w => dec_c w v (by omega))
  have HT := hid (txt3 l r v)
  obtain ⟨L, eL⟩ : ∃ L, L = chr 120 l := ⟨_, rfl⟩
  obtain ⟨R, eR⟩ : ∃ R, R = chr 97 r := ⟨_, rfl⟩
  obtain ⟨V, eV⟩ : ∃ V, V = chr 48 v := ⟨_, rfl⟩
  rw [← eL] at HL
  rw [← eR] at HR
  rw [← eV] at HV
  rw [← eL, ← eR] at HT
  have sL : L.size ≤ 1 := by rw [eL]; exact Nat.le_refl _
  have sR : R.size ≤ 1 := by rw [eR]; exact Nat.le_refl _
  have sV : V.size ≤ 1 := by rw [eV]; exact Nat.le_refl _
  clear eL eR eV hl hr hv3
  have HB0 := hid ((Below.refl w.heap.size w).alloc (Nat.le_refl _) (.cells #[.int .i64 3, .int .i64 l, .int .i64 r, .int .i64 v] 70))
  have HX := hid (Box.new w ⟨3, l, r, v⟩ 70)
  go_enter Try.func104, Try.ntmps104
  go_wp2_with fail
  refine (HL.out _).mono ?_
  rintro e w1 ⟨rfl, hb1⟩
  have HX1 := hid (HX.out.below hb1 (by simp))
  have HB1 := hid (HB0.out.trans (hb1.mono HB0.out.size))
  obtain ⟨y0, y1, y2, y3⟩ := HX1.out
  simp only [] at y0 y1 y2 y3
  clear hb1
  go_wp2_with fail
  refine (HR.out _).mono ?_
  rintro e w2 ⟨rfl, hb2⟩
  have HX2 := hid (HX1.out.below hb2 (World.block_lt_of_cell? _ _ HX1.out.1))
  have HB2 := hid (HB1.out.trans (hb2.mono HB1.out.size))
  clear y0 y1 y2 y3 hb2
  obtain ⟨y0, y1, y2, y3⟩ := HX2.out
  simp only [] at y0 y1 y2 y3
  go_wp2
  go_ret
  exact ⟨ret_str HT.out.symm, HB2.out⟩
set_option maxHeartbeats 800000 in
theorem text4_c (w : World) (l r v : Nat) (hl : l ≤ 2) (hr : r ≤ 2) (hv3 : v ≤ 3) : Calls Try.prog 104 #[.agg #[.int .i64 4, .int .i64 l, .int .i64 r, .int .i64 v]] w fun e w' => e = .returned (.string (insTxt ⟨(4 : Nat), l, r, v⟩)) ∧ Below w.heap.size w w' := by
  have HL := hid (fun w => letter_x w l hl)
  have HR := hid (fun w => letter_a w r hr)
  have HV := hid (fun w => dec_c w v (by omega))
  have HT := hid (txt4 l r v)
  obtain ⟨L, eL⟩ : ∃ L, L = chr 120 l := ⟨_, rfl⟩
  obtain ⟨R, eR⟩ : ∃ R, R = chr 97 r := ⟨_, rfl⟩
  obtain ⟨V, eV⟩ : ∃ V, V = chr 48 v := ⟨_, rfl⟩
  rw [← eL] at HL
  rw [← eR] at HR
  rw [← eV] at HV
  have sL : L.size ≤ 1 := by rw [eL]; exact Nat.le_refl _
  have sR : R.size ≤ 1 := by rw [eR]; exact Nat.le_refl _
  have sV : V.size ≤ 1 := by rw [eV]; exact Nat.le_refl _
  clear eL eR eV hl hr hv3
  have HB0 := hid ((Below.refl w.heap.size w).alloc (Nat.le_refl _) (.cells #[.int .i64 4, .int .i64 l, .int .i64 r, .int .i64 v] 70))
  have HX := hid (Box.new w ⟨4, l, r, v⟩ 70)
  go_enter Try.func104, Try.ntmps104
  go_wp2_with fail
  refine (HL.out _).mono ?_
  rintro e w1 ⟨rfl, hb1⟩
  have HX1 := hid (HX.out.below hb1 (by simp))
  have HB1 := hid (HB0.out.trans (hb1.mono HB0.out.size))
  obtain ⟨y0, y1, y2, y3⟩ := HX1.out
  simp only [] at y0 y1 y2 y3
  clear hb1
  go_wp2_with fail
  refine (HR.out _).mono ?_
  rintro e w2 ⟨rfl, hb2⟩
  have HX2 := hid (HX1.out.below hb2 (World.block_lt_of_cell? _ _ HX1.out.1))
  have HB2 := hid (HB1.out.trans (hb2.mono HB1.out.size))
  clear y0 y1 y2 y3 hb2
  obtain ⟨y0, y1, y2, y3⟩ := HX2.out
  simp only [] at y0 y1 y2 y3
  go_wp2
  go_ret
  exact ⟨ret_str HT.out.symm, HB2.out⟩
set_option maxHeartbeats 800000 in
theorem text5_c (w : World) (l r v : Nat) (hl : l ≤ 2) (hr : r ≤ 2) (hv3 : v ≤ 3) : Calls Try.prog 104 #[.agg #[.int .i64 5, .int .i64 l, .int .i64 r, .int .i64 v]] w fun e w' => e = .returned (.string (insTxt ⟨(5 : Nat), l, r, v⟩)) ∧ Below w.heap.size w w' := by
  have HL := hid (fun w => letter_x w l hl)
  have HR := hid (fun w => letter_a w r hr)
  have HV := hid (fun w => dec_c w v (by omega))
  have HT := hid (txt5 l r v)
  obtain ⟨L, eL⟩ : ∃ L, L = chr 120 l := ⟨_, rfl⟩
  obtain ⟨R, eR⟩ : ∃ R, R = chr 97 r := ⟨_, rfl⟩
  obtain ⟨V, eV⟩ : ∃ V, V = chr 48 v := ⟨_, rfl⟩
  rw [← eL] at HL
  rw [← eR] at HR
  rw [← eV] at HV
  rw [← eL, ← eR, ← eV] at HT
  have sL : L.size ≤ 1 := by rw [eL]; exact Nat.le_refl _
  have sR : R.size ≤ 1 := by rw [eR]; exact Nat.le_refl _
  have sV : V.size ≤ 1 := by rw [eV]; exact Nat.le_refl _
  clear eL eR eV hl hr hv3
  have HB0 := hid ((Below.refl w.heap.size w).alloc (Nat.le_refl _) (.cells #[.int .i64 5, .int .i64 l, .int .i64 r, .int .i64 v] 70))
  have HX := hid (Box.new w ⟨5, l, r, v⟩ 70)
  go_enter Try.func104, Try.ntmps104
  go_wp2_with fail
  refine (HL.out _).mono ?_
  rintro e w1 ⟨rfl, hb1⟩
  have HX1 := hid (HX.out.below hb1 (by simp))
  have HB1 := hid (HB0.out.trans (hb1.mono HB0.out.size))
  obtain ⟨y0, y1, y2, y3⟩ := HX1.out
  simp only [] at y0 y1 y2 y3
  clear hb1
  go_wp2_with fail
  refine (HR.out _).mono ?_
  rintro e w2 ⟨rfl, hb2⟩
  have HX2 := hid (HX1.out.below hb2 (World.block_lt_of_cell? _ _ HX1.out.1))
  have HB2 := hid (HB1.out.trans (hb2.mono HB1.out.size))
  clear y0 y1 y2 y3 hb2
  obtain ⟨y0, y1, y2, y3⟩ := HX2.out
  simp only [] at y0 y1 y2 y3
  go_wp2_with fail
  refine (HV.out _).mono ?_
  rintro e w3 ⟨rfl, hb3⟩
  have HB3 := hid (HB2.out.trans (hb3.mono HB2.out.size))
  clear y0 y1 y2 y3 hb3
  go_wp2
  go_ret
  exact ⟨ret_str HT.out.symm, HB3.out⟩
theorem l1Text_c (w : World) (x : Ins) (hv : insValid x = true) : Calls Try.prog 104 #[x.v] w fun e w' => e = .returned (.string (insTxt x)) ∧ Below w.heap.size w w' := by
  obtain ⟨o, l, r, v, rfl, ho, hl, hr, hv3⟩ := ins_nat hv
  rcases ho with rfl | rfl | rfl | rfl | rfl
  · exact text1_c w l r v hl hr hv3
  · exact text2_c w l r v hl hr hv3
  · exact text3_c w l r v hl hr hv3
  · exact text4_c w l r v hl hr hv3
  · exact text5_c w l r v hl hr hv3

/-- The text of an instruction that may be invalid. -/
def fmtIns (x : Ins) : ByteArray := if insValid x then insTxt x else ⟨#[]⟩
end Go.Proofs.Ythlmfjoiicnomaa
