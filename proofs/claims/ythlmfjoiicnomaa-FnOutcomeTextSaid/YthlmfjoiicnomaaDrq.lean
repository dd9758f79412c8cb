/-
  PROVED HERE: what spec.DrawParseOutcome does: some program and some text of at most 2100 bytes. CONDITIONS: as each theorem states.
-/
import Derived.Test.YthlmfjoiicnomaaDro
import Derived.Test.YthlmfjoiicnomaaBen
import Derived.Test.YthlmfjoiicnomaaTxo
namespace Go.Proofs.Ythlmfjoiicnomaa
open Go.RowKit
set_option linter.unusedVariables false
set_option linter.unusedSimpArgs false

/-- A drawn program and a drawn text. -/
def DrawnPT (w w' : World) (e : Ending) : Prop :=
  ∃ (p : Prg) (a : Option Addr) (cap : Nat) (t : ByteArray), e = .returned (.tuple #[.slice a p.length cap, .string t]) ∧ RdP w' a p ∧ sizeP p ≤ 100 ∧ t.size ≤ 2100 ∧ Below w.heap.size w w'
set_option maxRecDepth 100000 in
set_option maxHeartbeats 1600000 in
theorem drawPO_c (w : World) (a : Option Addr) (cap : Nat) (bs : List Int) (h : Rd w a (u8s bs)) (hwf : ∀ x ∈ bs, 0 ≤ x ∧ x ≤ 255) (hl : bs.length ≤ 1048576) (hcap : bs.length ≤ cap) (hcm : cap ≤ 9223372036854775807) :
    Calls Try.prog 28 #[.slice a bs.length cap] w fun e w' => DrawnPT w w' e := by
  have HOP := hid (open_c w a cap bs h hwf hl hcap hcm)
  have HDR := hid (fun w (g q : Nat) (bs : List Int) (h : Rdr w g bs q) (hq : q ≤ 700000) => l3Draw_c w g bs q h hq)
  clear h hwf
  go_enter Try.func28, Try.ntmps28
  go_wp2_with fail
  refine HOP.out.mono ?_
  rintro e w1 ⟨bs', rfl, hr1, hb1⟩
  have HB1 := hid hb1
  have hlt1 := hr1.lt
  obtain ⟨g, hg⟩ : ∃ g, g = w.heap.size := ⟨_, rfl⟩
  rw [← hg] at hr1 hlt1
  have HR1 := hid hr1
  have HGW := hid hg
  clear hr1 hb1 hg
  go_wp2_with fail
  rw [← HGW.out]
  refine (HDR.out _ _ _ _ HR1.out (by omega)).mono ?_
  rintro e w3 ⟨P, os, a3, c3, a5, c5, q3, rfl, hc3, ha3, hv3, hrd3, hne3, hl3, hlc3, hr3, hq3, hg3⟩
  have HR3 := hid hr3
  have HA3 := hid ha3
  have HZ3 := hid (shape_size (valid_of hv3).toShape)
  have HB3 := hid (below_grown HB1.out hg3 (by have := HGW.out; omega) HB1.out.size)
  have hs3 := hg3.size
  have HP := hid (foS_c w3 a3 c3 P a5 c5 os ha3.rd hrd3 (by have := HZ3.out; omega) (by omega))
  have hsz : (fmtOut P os).size ≤ 1000 := by
    unfold fmtOut
    split
    · have := txtTo_size os os.length
      unfold outTxt
      omega
    · exact Nat.zero_le _
  obtain ⟨t, ht⟩ : ∃ t, t = fmtOut P os := ⟨_, rfl⟩
  rw [← ht] at HP hsz
  have HSZ := hid hsz
  have HGL := hid hr3.lt
  clear ha3 hv3 hr3 hg3 ht hsz hrd3 hne3
  go_wp2_with fail
  refine HP.out.mono ?_
  rintro e w4 ⟨rfl, hb4⟩
  have HR4 := hid (HR3.out.below hb4)
  have HA4 := hid (HA3.out.below hb4)
  have HB4 := hid (HB3.out.trans (hb4.mono HB3.out.size))
  have HG4 := hid (Nat.lt_of_lt_of_le HGL.out hb4.size)
  clear hb4
  have HST := hid (fun (arr : Array Value) (e : Nat) (h : (List.range 5).all (fun k => strB (arr[k]?)) = true) => str_at w4 arr e 5 h)
  have HBD := hid (fun w5 H hr hst hne => l1Bend_c w5 g bs' q3 H 5 t hr (by omega) hst (by omega) (by omega) hne HSZ.out)
  go_wp2_with fail
  refine (HBD.out _ _ (rdr_alloc HR4.out _) (HST.out _ _ (by decide +kernel)) (by have := HG4.out; omega)).mono ?_
  rintro e w5 ⟨t5, q5, rfl, ht5, _, _, hg5⟩
  have HB5 := hid (below_rdr (HB4.out.alloc HB4.out.size _) hg5 (by have := HGW.out; omega) (by have := HB4.out.size; simp; omega))
  have HA5 := hid ((HA4.out.below ((Below.refl _ _).alloc (Nat.le_refl _) _)).kept hg5)
  clear hg5
  go_wp2_with fail
  go_ret2
  exact ⟨P, a3, c3, t5, rfl, HA5.out.rd, by have := HZ3.out; omega, ht5, HB5.out⟩
end Go.Proofs.Ythlmfjoiicnomaa
