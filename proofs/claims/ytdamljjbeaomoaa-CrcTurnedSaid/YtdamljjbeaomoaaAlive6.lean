/- The usual calls of layer 6 ('alive') come out as told. -/
import Derived.Test.YtdamljjbeaomoaaCrcF
import Derived.Test.YtdamljjbeaomoaaMem2
import Derived.Lib.SlBytesConst
namespace Go.Proofs.Ytdamljjbeaomoaa
set_option linter.unusedSimpArgs false
set_option linter.unusedVariables false
open Go.RowKit Own
theorem crc_all : crc [49, 50, 51, 52, 53, 54, 55, 56, 57] = 3421780262#32 := by decide +kernel
theorem crc_ab : lowB (crc [97, 98]) = [109, 72, 131, 158] := by decide +kernel
set_option maxHeartbeats 2000000 in
theorem alive6 (w : World) : Calls Try.prog 23 #[] w fun e w' => e = .returned (.bool true) ∧ Below w.heap.size w w' := by
  have kc := conv_lit (P := Try.prog) 37 5 Try.underlying37 Try.underlying5
  go_enter Try.func23, Try.ntmps23
  have H0 := At.refl w
  go_wp2_with fail
  refine withAt (by repeat (first | with_reducible exact H0 | apply At.alloc | apply At.other)) (fun HW => ?_)
  refine (Seal_calls (some ⟨w.heap.size + 1, 0, none⟩) 2 [97, 98] (by decide) (fun h => nomatch h) _ (Rd.put _ (by simp) (bys [97, 98]) _ _)).mono ?_
  rintro e w1 ⟨v1, rfl, hv1, hb1⟩
  have H1 := HW.call hb1
  clear HW hb1 H0
  obtain ⟨a1, c1, rfl, hc1, hR1⟩ := hv1.some_ 5 (by decide)
  clear hv1
  go_wp2_with fail
  refine withAt (by repeat (first | with_reducible exact H1 | apply At.alloc | apply At.other)) (fun HW => ?_)
  refine (Open_good a1 c1 ([97, 98] ++ lowB (crc [97, 98])) 2 rfl (by decide) (show ([97, 98] ++ lowB (crc [97, 98]) : List UInt8).length ≤ c1 from hc1) _ hR1 (by decide +kernel)).mono ?_
  rintro e w2 ⟨v2, rfl, hv2, hb2⟩
  have H2 := HW.call hb2
  clear HW hb2 H1 hR1
  obtain ⟨a2, c2, rfl, hc2, hR2⟩ := hv2.some_ 1 (by decide)
  clear hv2
  have HR2 := Lib.hid hR2
  clear hR2
  go_wp2_with fail
  refine (Open_short (some ⟨w2.heap.size, 0, none⟩) 3 [97, 98, 99] (by decide) _).mono ?_
  rintro e w3 ⟨rfl, rfl⟩
  go_wp2_with fail
  refine withAt (by repeat (first | with_reducible exact H2 | apply At.alloc | apply At.other)) (fun HW => ?_)
  refine (Open_bad ⟨w2.heap.size + 1, 0, none⟩ 5 [1, 0, 0, 0, 0] 1 rfl (by decide) (by decide) _ (Rd.put _ (by simp) (bys [1, 0, 0, 0, 0]) _ _) (by decide +kernel)).mono ?_
  rintro e w3 ⟨rfl, hb3⟩
  have H3 := HW.call hb3
  have HR3 := Lib.hid (((HR2.out.alloc _).alloc _).below hb3)
  clear HW hb3 H2 HR2
  have K3 := H3.rules
  simp only [List.forall_mem_cons, World.size_alloc] at K3
  go_wp2_with fail
  refine withAt (by repeat (first | with_reducible exact H3 | apply At.alloc | apply At.other)) (fun HW => ?_)
  refine (Sum_calls (some ⟨w3.heap.size + 2, 0, none⟩) 2 [(some ⟨w3.heap.size, 0, none⟩, 4, [49, 50, 51, 52]), (some ⟨w3.heap.size + 1, 0, none⟩, 5, [53, 54, 55, 56, 57])] (by simp) _ (Rd.put _ (by simp) (sls [(some ⟨w3.heap.size, 0, none⟩, 4, [49, 50, 51, 52]), (some ⟨w3.heap.size + 1, 0, none⟩, 5, [53, 54, 55, 56, 57])]) _ _) ?parts).mono ?_
  case parts =>
    intro p hp
    rcases List.mem_cons.1 hp with rfl | hp
    · exact ⟨by simp, ((Rd.put _ rfl (bys [49, 50, 51, 52]) _ _).alloc _).alloc _⟩
    · obtain rfl := List.mem_singleton.1 hp
      exact ⟨by simp, (Rd.put _ (by simp) (bys [53, 54, 55, 56, 57]) _ _).alloc _⟩
  rintro e w4 ⟨rfl, hb4⟩
  have H4 := HW.call hb4
  have HR4 := Lib.hid ((((HR3.out.alloc _).alloc _).alloc _).below hb4)
  clear HW hb4 H3 HR3 K3
  have K4 := H4.rules
  simp only [List.forall_mem_cons, World.size_alloc] at K4
  rw [show nW (crc (flat [(some ⟨w3.heap.size, 0, none⟩, 4, [49, 50, 51, 52]), (some ⟨w3.heap.size + 1, 0, none⟩, 5, [53, 54, 55, 56, 57])])) = 3421780262 from by rw [show flat [(some ⟨w3.heap.size, 0, none⟩, 4, [49, 50, 51, 52]), (some ⟨w3.heap.size + 1, 0, none⟩, 5, [53, 54, 55, 56, 57])] = [49, 50, 51, 52, 53, 54, 55, 56, 57] from rfl, crc_all]; rfl]
  go_wp2_with fail
  refine withAt (by repeat (first | with_reducible exact H4 | apply At.alloc | apply At.other)) (fun HW => ?_)
  refine (Add_calls 0#32 (some ⟨w4.heap.size, 0, none⟩) 1 [49] (by decide) _ (Rd.put _ rfl (bys [49]) _ _)).mono ?_
  rintro e w5 ⟨rfl, hb5⟩
  have H5 := HW.call hb5
  have HR5 := Lib.hid ((HR4.out.alloc _).below hb5)
  clear HW hb5 H4 HR4 K4
  rw [show ~~~(reg (~~~0#32) [49]) = crc [49] from rfl]
  go_wp2_with fail
  refine withAt (by repeat (first | with_reducible exact H5 | apply At.alloc | apply At.other)) (fun HW => ?_)
  refine (Add_calls (crc [49]) (some ⟨w5.heap.size, 0, none⟩) 8 [50, 51, 52, 53, 54, 55, 56, 57] (by decide) _ (Rd.put _ rfl (bys [50, 51, 52, 53, 54, 55, 56, 57]) _ _)).mono ?_
  rintro e w6 ⟨rfl, hb6⟩
  have H6 := HW.call hb6
  have HR6 := Lib.hid ((HR5.out.alloc _).below hb6)
  clear HW hb6 H5 HR5
  rw [crc_add, show ([49] ++ [50, 51, 52, 53, 54, 55, 56, 57] : List UInt8) = [49, 50, 51, 52, 53, 54, 55, 56, 57] from rfl, crc_all]
  go_wp2_with fail
  refine withAt (by repeat (first | with_reducible exact H6 | apply At.alloc | apply At.other)) (fun HW => ?_)
  refine (StSum_calls 3421780262#32 _).mono ?_
  rintro e w7 ⟨rfl, hb7⟩
  have H7 := HW.call hb7
  have hR7 := HR6.out.below hb7
  clear HW hb7 H6 HR6
  rw [show nW 3421780262#32 = 3421780262 from rfl]
  have ks := run_string_of (w := w7) Try.underlying37 Try.underlying5 Try.underlying9 (some a2) 2 c2 [97, 98] rfl (fun h => nomatch h) hR7
  clear hR7
  go_wp2_with fail
  go_ret
  exact ⟨rfl, H7.below⟩
end Go.Proofs.Ytdamljjbeaomoaa
