/- Layer 17: alive. -/
import Derived.Test.YtdlfdkdcnabpoaaDoorPaS
namespace Go.Proofs.YtdlfdkdcnabpoaaDoor.Pa
set_option linter.unusedSimpArgs false
set_option linter.unusedVariables false
open Go.RowKit
open _root_.Go.Proofs.YtdlfdkdcnabpoaaDoor.Own
open Go.Proofs.YtdlfdkdcnabpoaaDoor.Lx
theorem q_a1 : queryS [99, 111, 117, 110, 116, 32, 40, 114, 49, 32, 124, 32, 117, 112, 32, 114, 50, 41] = ([⟨4, 1⟩, ⟨4, 2⟩, ⟨6, 0⟩, ⟨13, 0⟩, ⟨10, 0⟩], 0, 0) := by decide +kernel
theorem q_a2 : queryS [114, 49, 32, 124] = ([], 4, 3) := by decide +kernel
theorem q_a3 : queryS [40, 40, 40, 40, 40, 40, 40, 40, 40, 40, 114, 49, 41, 41, 41, 41, 41, 41, 41, 41, 41, 41] = ([], 9, 17) := by decide +kernel
def aL : List Nd := [⟨4, 1⟩, ⟨4, 2⟩, ⟨6, 0⟩, ⟨13, 0⟩, ⟨10, 0⟩]
theorem r_a1 : rightB aL = true := by decide +kernel
theorem r_a2 : rightB (aL.drop 1) = false := by decide +kernel
theorem b_a1 : bP aL 3 1 = 0 := by decide +kernel
theorem b_a2 : bP aL 2 1 = 1 := by decide +kernel
theorem ar_1 : argsI 12 = 2 := by decide
theorem ar_2 : argsI 0 = -1 := by decide
set_option maxRecDepth 10000 in
set_option maxHeartbeats 8000000 in
theorem alive17 (w : World) (hE : Lx.Env w) : Calls Tryd.prog 14 #[] w fun e w' => e = .returned (.bool true) ∧ Below w.heap.size w w' := by
  have hq := Query_calls [99, 111, 117, 110, 116, 32, 40, 114, 49, 32, 124, 32, 117, 112, 32, 114, 50, 41] w hE
  rw [q_a1, show str [99, 111, 117, 110, 116, 32, 40, 114, 49, 32, 124, 32, 117, 112, 32, 114, 50, 41] = ⟨#[99, 111, 117, 110, 116, 32, 40, 114, 49, 32, 124, 32, 117, 112, 32, 114, 50, 41]⟩ from rfl] at hq
  have HQ := Lib.hid hq
  have HE := Lib.hid hE
  clear hq hE
  go_enter Tryd.func14, Tryd.ntmps14
  go_wp2_with fail
  refine HQ.out.mono ?_
  rintro e w1 ⟨v1, rfl, h1, hb1⟩
  have hq2 := Query_calls [114, 49, 32, 124] w1 (HE.out.below hb1)
  rw [q_a2, show str [114, 49, 32, 124] = ⟨#[114, 49, 32, 124]⟩ from rfl] at hq2
  have HQ2 := Lib.hid hq2
  have HB1 := Lib.hid hb1
  have H1 := Lib.hid h1
  clear hq2 HQ hb1 h1
  go_wp2_with fail
  refine HQ2.out.mono ?_
  rintro e w2 ⟨v2, rfl, h2, hb2⟩
  have HB2 := Lib.hid (HB1.out.trans (hb2.mono HB1.out.size))
  have hq3 := Query_calls [40, 40, 40, 40, 40, 40, 40, 40, 40, 40, 114, 49, 41, 41, 41, 41, 41, 41, 41, 41, 41, 41] w2 (HE.out.below HB2.out)
  rw [q_a3, show str [40, 40, 40, 40, 40, 40, 40, 40, 40, 40, 114, 49, 41, 41, 41, 41, 41, 41, 41, 41, 41, 41] = ⟨#[40, 40, 40, 40, 40, 40, 40, 40, 40, 40, 114, 49, 41, 41, 41, 41, 41, 41, 41, 41, 41, 41]⟩ from rfl] at hq3
  have HQ3 := Lib.hid hq3
  have H2 := Lib.hid (H1.out.below hb2)
  clear hq3 HQ2 HB1 H1 h2 hb2
  go_wp2_with fail
  refine HQ3.out.mono ?_
  rintro e w3 ⟨v3, rfl, h3, hb3⟩
  have HB3 := Lib.hid (HB2.out.trans (hb3.mono HB2.out.size))
  have h9 := H2.out.below hb3
  clear HQ3 HB2 H2 h3 hb3 HE
  obtain ⟨A, c, rfl, hc, _, hR, _, _⟩ := h9.form
  obtain ⟨ad, rfl, _⟩ := hR 0 (by decide)
  rw [show ([⟨4, 1⟩, ⟨4, 2⟩, ⟨6, 0⟩, ⟨13, 0⟩, ⟨10, 0⟩] : List Nd) = aL from rfl] at hR
  have hR := hR
  have hc : 5 ≤ c := hc
  have hb4 : Below w3.heap.size w3 (w3.alloc (.cells ⟨ndC aL⟩ 46)) := (Below.refl _ _).alloc (Nat.le_refl _) _
  have HSm := Lib.hid (Same_calls (hR.below hb4) (Rd.put _ rfl (ndC aL) _ _) 5 rfl hc (Nat.le_refl _) (by decide))
  have HRR := Lib.hid hR
  have HB4 := Lib.hid (HB3.out.trans (hb4.mono HB3.out.size))
  have HB43 := Lib.hid hb4
  have HC := Lib.hid hc
  have hc5 : ¬ c < 5 := by omega
  clear hR h9 hb4 HB3
  go_wp2_with fail
  refine HSm.out.mono ?_
  rintro e w4 ⟨rfl, hb5⟩
  have HR4 := Lib.hid ((HRR.out.below HB43.out).below hb5)
  have HB5 := Lib.hid (HB4.out.trans (hb5.mono HB4.out.size))
  have hA1 := Args_calls 12 w4
  rw [ar_1] at hA1
  have HA1 := Lib.hid hA1
  clear hb5 HSm hA1
  go_wp2_with fail
  refine HA1.out.mono ?_
  rintro e w5 ⟨rfl, rfl⟩
  have hA2 := Args_calls 0 w4
  rw [ar_2] at hA2
  have HA2 := Lib.hid hA2
  clear hA2 HA1
  go_wp2_with fail
  refine HA2.out.mono ?_
  rintro e w5 ⟨rfl, rfl⟩
  have hR1 := Right_calls HR4.out 5 rfl HC.out (by decide)
  rw [r_a1] at hR1
  have HR1 := Lib.hid hR1
  clear hR1 HA2
  go_wp2_with fail
  refine HR1.out.mono ?_
  rintro e w5 ⟨rfl, hb6⟩
  have HR5 := Lib.hid (HR4.out.below hb6)
  have HB6 := Lib.hid (HB5.out.trans (hb6.mono HB5.out.size))
  have hdr : Rd w5 (some ⟨ad.block, ad.off + 2, none⟩) (ndC (aL.drop 1)) := by
    have := HR5.out.drop 2
    rw [show (ndC aL).drop 2 = ndC (aL.drop 1) from rfl, Option.map_some, addPos _ 2 (by decide)] at this
    exact this
  have hR2 := Right_calls hdr (c := c - 1) 4 rfl (by have := HC.out; omega) (by decide)
  rw [r_a2] at hR2
  have HR2 := Lib.hid hR2
  have i1 : ((1 : Int) ≤ 5) := by decide
  clear hR2 HR1 hb6 hdr
  go_wp2_with fail
  refine HR2.out.mono ?_
  rintro e w6 ⟨rfl, hb7⟩
  have HR6 := Lib.hid (HR5.out.below hb7)
  have HB7 := Lib.hid (HB6.out.trans (hb7.mono HB6.out.size))
  have hG1 := Begin_calls HR6.out 5 rfl HC.out (by decide) 3 (by decide)
  rw [b_a1] at hG1
  have HG1 := Lib.hid hG1
  have hG2 := Begin_calls HR6.out 5 rfl HC.out (by decide) 2 (by decide)
  rw [b_a2] at hG2
  have HG2 := Lib.hid hG2
  clear hb7 hG1 hG2 HR2
  go_wp2_with fail
  refine HG1.out.mono ?_
  rintro e w7 ⟨rfl, rfl⟩
  go_wp2_with fail
  refine HG2.out.mono ?_
  rintro e w7 ⟨rfl, rfl⟩
  go_wp2_with fail
  go_returns
  exact ⟨rfl, HB7.out⟩
end Go.Proofs.YtdlfdkdcnabpoaaDoor.Pa
