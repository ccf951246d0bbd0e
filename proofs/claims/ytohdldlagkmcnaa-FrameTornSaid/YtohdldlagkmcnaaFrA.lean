/- Chapter 08: alive. -/
import Derived.Test.YtohdldlagkmcnaaFrL
import Derived.Test.YtohdldlagkmcnaaTurnQ
import Derived.Laws.OwnMore
import Derived.Deep.DeepCutAuto
namespace Go.Proofs.Ytohdldlagkmcnaa.Fr
open Go.RowKit _root_.Go.Proofs.Ytohdldlagkmcnaa.Own
set_option linter.unusedVariables false
set_option linter.unusedSimpArgs false
def BLa : List UInt8 := blockF 67 1 2 [120, 121]
def BLb : List UInt8 := BLa.set 9 120
theorem bla_facts : BLa.length = 128 ∧ formB 67 BLa ∧ ckB BLa = true ∧ genF (BLa.take 120) = 1 ∧ seqF (BLa.take 120) = 2 ∧ lenF (BLa.take 120) = 2 ∧ ((BLa.take 120).drop 8).take 2 = [120, 121] ∧ padZ (BLa.take 120) :=
  read_of 67 1 2 [120, 121] (by decide) (by decide) (by decide)
theorem bla_cells : BLa[0]? = some 67 ∧ BLa[9]? = some 121 ∧ BLa[127]? = some 69 ∧ BLa.take 8 = [67, 0, 0, 0, 1, 0, 2, 2] := by decide +kernel
theorem blb_sum : ckB BLb = false := by
  cases hk : ckB BLb with
  | false => rfl
  | true =>
    exfalso
    obtain ⟨f1, f2, f3, -⟩ := bla_facts
    have hbl : BLb.length = 128 := by unfold BLb; rw [List.length_set]; exact f1
    unfold ckB at f3 hk
    have l1 : (BLa.take 124).length = 124 := by rw [List.length_take, f1]; rfl
    have l2 : (BLb.take 124).length = 124 := by rw [List.length_take, hbl]; rfl
    have hne : ∀ j, j ≠ 9 → (BLa.take 124)[j]? = (BLb.take 124)[j]? := by
      intro j hj
      unfold BLb
      rw [List.getElem?_take, List.getElem?_take, List.getElem?_set_ne (fun e => hj e.symm)]
    have he := turned (BLa.take 124) (BLb.take 124) 120 l1.symm (by rw [l1, l2]) (beq_iff_eq.1 f3) (beq_iff_eq.1 hk) 72 (by
      intro i hi
      unfold bitAt
      rw [List.getElem?_map, List.getElem?_map, hne (i / 8) (by omega)])
    have h9 := congrArg (fun l => l[9]?) he
    simp only [List.getElem?_take] at h9
    rw [if_pos (by decide), if_pos (by decide), bla_cells.2.1] at h9
    unfold BLb at h9
    rw [List.getElem?_set_self (by rw [f1]; decide)] at h9
    exact absurd (Option.some.inj h9) (by decide)
theorem blb_form : formB 67 BLb := by
  obtain ⟨h0, h1, h2, h3, h4⟩ := bla_facts.2.1
  refine ⟨?_, ?_, ?_, ?_, ?_⟩ <;> unfold BLb <;> rw [List.getElem?_set_ne (by decide)] <;> assumption
theorem blb_len : BLb.length = 128 := by unfold BLb; rw [List.length_set]; exact bla_facts.1
theorem bla_not : ¬ formB 82 BLa := fun h => by have h1 := h.1; rw [bla_cells.1] at h1; exact absurd h1 (by decide)
set_option maxRecDepth 10000 in
set_option maxHeartbeats 4000000 in
theorem alive08 (w : World) : Calls Try.prog 6 #[] w fun e w' => e = .returned (.bool true) ∧ Below w.heap.size w w' := by
  have kc := conv_lit (P := Try.prog) 22 5 Try.underlying22 Try.underlying5
  obtain ⟨f1, f2, f3, f4, f5, f6, f7, f8⟩ := bla_facts
  obtain ⟨g1, g2, g3, g4⟩ := bla_cells
  have F := Lib.hid (And.intro f1 (And.intro f2 (And.intro f3 (And.intro f4 (And.intro f5 (And.intro f6 (And.intro f7 f8)))))))
  have G := Lib.hid (And.intro g1 (And.intro g2 (And.intro g3 g4)))
  clear f1 f2 f3 f4 f5 f6 f7 f8 g1 g2 g3 g4
  go_enter Try.func6, Try.ntmps6
  have H0 := At.refl w
  go_wp2_with fail
  refine withAt (by repeat (first | with_reducible exact H0 | apply At.alloc | apply At.other)) (fun HW => ?_)
  refine (WriteOk_calls 67 1 2 (by decide) (by decide) (some ⟨w.heap.size, 0, none⟩) 2 2 [120, 121] rfl (by decide) (fun h => nomatch h) _ (Rd.put _ rfl (bys [120, 121]) _ _)).mono ?_
  rintro e w1 ⟨v1, rfl, hv1, hb1⟩
  have H1 := Lib.hid (HW.call hb1).below
  have hv1 := Has.base hv1 HW.below.size
  clear HW hb1 H0
  rw [show blockF 67 1 2 [120, 121] = BLa from rfl] at hv1
  obtain ⟨g, c, rfl, hc, -, hgb, hgl, hr1⟩ := Has.row hv1 127 F.out.1
  have HV := Lib.hid hv1
  have HR1 := Lib.hid hr1
  clear hv1 hr1
  go_wp2_with fail
  have hRd := ReadOk_calls 67 ⟨g, 0, none⟩ c BLa F.out.1 hc w1 HR1.out F.out.2.1 F.out.2.2.1 ⟨by rw [F.out.2.2.2.1]; decide, by rw [F.out.2.2.2.2.2.1]; decide, F.out.2.2.2.2.2.2.2⟩
  rw [F.out.2.2.2.1, F.out.2.2.2.2.1, F.out.2.2.2.2.2.1, F.out.2.2.2.2.2.2.1] at hRd
  refine hRd.mono ?_
  rintro e w2 ⟨⟨A2, c2, rfl, hc2, hA2, hr2, hf2⟩, hb2⟩
  have H2 := Lib.hid (H1.out.trans (hb2.mono H1.out.size))
  have HV2 := Lib.hid (HV.out.below hb2)
  have HR2 := Lib.hid (HR1.out.below hb2)
  have HP2 := Lib.hid hr2
  have hne2 : ∀ b, A2 = some b → b.block ≠ g := fun b hb' => by have := hf2 b hb'; omega
  clear hRd hb2 hr2 hf2 HV HR1
  go_wp2_with fail
  refine (ReadForm_calls 82 ⟨g, 0, none⟩ c BLa F.out.1 hc w2 HR2.out bla_not).mono ?_
  rintro e w3 ⟨rfl, hb3⟩
  have H3 := Lib.hid (H2.out.trans (hb3.mono H2.out.size))
  have HV3 := Lib.hid (HV2.out.below hb3)
  have HP3 := Lib.hid (HP2.out.below hb3)
  clear hb3 HV2 HR2 HP2
  have hc9 : w3.cell? ⟨g, 9, none⟩ = some (.int .u8 121) := by
    rw [World.ownsRow.cellAt HV3.out 9 (by decide)]
    unfold bys
    rw [List.getElem?_map, G.out.2.1]; rfl
  have hf9 : w3.frozen? ⟨g, 9, none⟩ = false := World.ownsRow.frozenAt HV3.out 9
  have hxx : bits .xor .u8 121 1 = 120 := by decide
  go_upto_region 7 with fail
  have hset : (bys BLa).set 9 (.int .u8 120) = bys BLb := by unfold BLb bys; rw [List.map_set]; rfl
  have hst := World.ownsRow.stored HV3.out 9 (.int .u8 120)
  rw [hset] at hst
  have hV4 : Has w.heap.size 5 (.slice (some ⟨g, 0, none⟩) 128 c) (bys BLb) (w3.setCell ⟨g, 9, none⟩ (.int .u8 120)) := by
    have h := hst.1
    show World.ownsRow _ _ _ _ _ (bys BLb).length _
    rw [bys_length, blb_len]
    exact h
  have H4 := Lib.hid (H3.out.setCell (p := ⟨g, 9, none⟩) hgb (.int .u8 120))
  have HP4 := Lib.hid (show Rd (w3.setCell ⟨g, 9, none⟩ (.int .u8 120)) A2 (bys [120, 121]) from by
    intro i hi
    obtain ⟨b, hb', hcb⟩ := HP3.out i hi
    refine ⟨b, hb', ?_⟩
    rw [World.cell?_of_block (w := w3) (Below.heap_setCell w3 _ _ _ (by rw [block_add]; exact hne2 b hb'))]
    exact hcb)
  clear hst hset HV3 HP3 H3 H2 hc9 hf9
  have HV4 := Lib.hid hV4
  clear hV4
  generalize w3.setCell ⟨g, 9, none⟩ (.int .u8 120) = w4 at HV4 H4 HP4 ⊢
  obtain ⟨g', c', he', -, -, -, -, hr4⟩ := Has.row HV4.out 127 blb_len
  cases he'
  have HR4 := Lib.hid hr4
  clear hr4
  go_wp2_with fail
  refine (ReadSum_calls 67 ⟨g, 0, none⟩ c BLb blb_len hc w4 HR4.out blb_form blb_sum).mono ?_
  rintro e w5 ⟨rfl, hb5⟩
  have H5 := Lib.hid (H4.out.trans (hb5.mono H4.out.size))
  have HR5 := Lib.hid (HR4.out.below hb5)
  have HP5 := Lib.hid (HP4.out.below hb5)
  clear hb5 HR4 HP4 H4 HV4
  go_wp2_with fail
  refine (WriteBad_calls 82 (-1) 0 none 0 0 8 (.inl ⟨.inl (by decide), rfl⟩) w5).mono ?_
  rintro e w6 ⟨rfl, hb6⟩
  have H6 := Lib.hid (H5.out.trans (hb6.mono H5.out.size))
  have HR6 := Lib.hid (HR5.out.below hb6)
  have hp6 := HP5.out.below hb6
  have kx := run_string_of (w := w6) Try.underlying22 Try.underlying5 Try.underlying9 A2 2 c2 [120, 121] rfl hA2 hp6
  have hb8 : BLb.take 8 = [67, 0, 0, 0, 1, 0, 2, 2] := by
    have h1 : BLb.take 8 = BLa.take 8 := by
      apply List.ext_getElem?
      intro i
      unfold BLb
      rw [List.getElem?_take, List.getElem?_take]
      split
      · rw [List.getElem?_set_ne (by omega)]
      · rfl
    rw [h1]; exact G.out.2.2.2
  have h8 := HR6.out.at_take 8
  rw [hb8] at h8
  have ky := run_string_of (w := w6) Try.underlying22 Try.underlying5 Try.underlying9 (some ⟨g, 0, none⟩) 8 c [67, 0, 0, 0, 1, 0, 2, 2] rfl (fun h => nomatch h) h8
  have h127 : w6.cell? ⟨g, 127, none⟩ = some (.int .u8 69) := by
    obtain ⟨a', ha, hcell⟩ := HR6.out.byte (k := 127) (by rw [blb_len]; decide)
    cases ha
    have hb : BLb[127]'(by rw [blb_len]; decide) = 69 := by
      have := blb_form.2.2.2.2
      rw [List.getElem?_eq_getElem (by rw [blb_len]; decide)] at this
      exact Option.some.inj this
    rw [hb] at hcell
    rwa [show (⟨g, 0, none⟩ : Addr).add 127 = ⟨g, 127, none⟩ from by unfold Addr.add; simp] at hcell
  have hci : (8 : Int) ≤ (c : Int) := by omega
  clear h8 hb8 hp6 hb6
  go_wp2_with fail
  go_ret
  exact ⟨rfl, H6.out⟩
end Go.Proofs.Ytohdldlagkmcnaa.Fr
