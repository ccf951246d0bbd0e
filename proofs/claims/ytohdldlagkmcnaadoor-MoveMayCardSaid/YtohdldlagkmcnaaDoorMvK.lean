/- Chapter 30: MoveMay (printed by gen/mvlaw.py). -/
import Derived.Test.YtohdldlagkmcnaaDoorMvI
namespace Go.Proofs.YtohdldlagkmcnaaDoor.Mv
set_option linter.unusedSimpArgs false
set_option linter.unusedVariables false
open Go.RowKit
open _root_.Go.Proofs.YtohdldlagkmcnaaDoor.Own
open Go.Proofs.YtohdldlagkmcnaaDoor.Pl
attribute [local go_sem] b16_and b16_or b16_andNot
set_option maxRecDepth 10000 in
set_option maxHeartbeats 16000000 in
theorem may_walk (P : Pol) (r : Int) (oS oI : BitVec 16) (oT : Int) (oF : Bool) (xS xI : BitVec 16) (xT : Int) (xF : Bool) (way : Int) (w : World) (hT : Table w) (hw1 : 1 ≤ w.heap.size) :
    Calls Tryd.prog 3 #[.agg ⟨askC P r oS oI oT oF xS xI xT xF⟩, .int .i64 way] w fun e w' => e = .returned (.bool true) ∧ Below w.heap.size w w' := by
  have hA := (At.refl w).alloc (askC P r oS oI oT oF xS xI xT xF) 33
  have HT := Lib.hid (And.intro hT hw1)
  have HA := Lib.hid hA
  have HAL := Lib.hid (fun (W : World) (hT : Table W) (hw1 : 1 ≤ W.heap.size) => alive30 W hT hw1)
  clear hA hT hw1
  go_enter Tryd.func3, Tryd.ntmps3
  go_wp2_with (refine wpList_load_part rfl 29 _ rfl w.heap.size 0 rfl 33 (askC P r oS oI oT oF xS xI xT xF) (polC P) 66 (0, 0) _ (HA.out.row 0 rfl) Tryd.underlying29 rfl pol_size' (polC_length P) (fun i hi => ask_pol i hi) ?_)
  refine (Mend_calls P _).mono ?_
  rintro e w1 ⟨Q, rfl, hb1⟩
  have A1 := (HA.out.call hb1).alloc (polC PZ) 29
  have hA2 := A1.setRow 0 rfl ⟨polC Q⟩
  simp only [List.set_cons_zero, List.set_cons_succ] at hA2
  clear hb1 HA
  go_upto_region 2 with (first | refine wpList_alloc_arr rfl 29 rfl (polC PZ) polC_zero ?_ | refine wpList_store_row rfl 29 _ _ rfl _ _ rfl rfl 29 _ (A1.row 0 rfl) polC_size polC_old polC_one ?_)
  generalize World.setRow _ _ _ = w2 at hA2 ⊢
  have HA2 := Lib.hid hA2
  clear A1 hA2
  go_simp
  go_cut [6, 7] (fun o x wx => ∃ g1 g2 : Nat, o = .pointer (some ⟨g1, 0, none⟩) ∧ x = .pointer (some ⟨g2, 0, none⟩) ∧ Hid (At w (LL w P r oS oI oT oF xS xI xT xF Q w1.heap.size g1 g2) wx))
  case first =>
    obtain ⟨y0, y1, y2, y3, y4, y5, y6, y7, y8⟩ := ask_cells HA2.out (k := 1) rfl
    have hy := (HA2.out.rules _ (List.mem_cons_of_mem _ (List.mem_cons_self ..))).2.2.1
    have hB1 := ((HA2.out.alloc (sideC oS oI oT oF) 35).alloc (sideC xS xI xT xF) 35)
    have hB2 := (at_swap ((HA2.out.alloc (sideC xS xI xT xF) 35).alloc (sideC oS oI oT oF) 35))
    simp only [World.size_alloc] at hB1 hB2
    have HB1 := Lib.hid hB1
    have HB2 := Lib.hid hB2
    clear hB1 hB2
    go_region
    all_goals (go_wp2_with fail; go_meet; first | exact ⟨_, _, rfl, rfl, Lib.hid HB1.out.drew⟩ | exact ⟨_, _, rfl, rfl, Lib.hid HB2.out.drew⟩)
  case rest =>
    obtain ⟨w3, rfl⟩ : ∃ x : World, x = wc := ⟨_, rfl⟩
    obtain ⟨g1, g2, rfl, rfl, HA3⟩ := hcut
    obtain ⟨y0, y1, y2, y3, y4, y5, y6, y7, y8⟩ := ask_cells HA3.out (k := 3) rfl
    obtain ⟨s0, s1, s2, s3⟩ := s4_cells HA3.out (k := 1) rfl
    obtain ⟨t0, t1, t2, t3⟩ := s4_cells HA3.out (k := 0) rfl
    clear HA2
    have HM := Lib.hid (fun V (hb : Below w.heap.size w V) => May_calls Q r oS oI oT oF xS xI xT xF way V (HT.out.1.below (hb.mono HT.out.2)) (Nat.le_trans HT.out.2 hb.size))
    have HRM := Lib.hid (RMay_calls Q r oS oI oT oF xS xI xT xF way)
    have HE := Lib.hid (fun V (hb : Below w.heap.size w V) => Event_is Q r oS oI oT oF xS xI xT xF way V (HT.out.1.below (hb.mono HT.out.2)) (Nat.le_trans HT.out.2 hb.size))
    have HRE := Lib.hid (REvent_is Q r oS oI oT oF xS xI xT xF way)
    have HAL2 := Lib.hid (fun V (hb : Below w.heap.size w V) => HAL.out V (HT.out.1.below (hb.mono HT.out.2)) (Nat.le_trans HT.out.2 hb.size))
    have HTO := Lib.hid (Told_calls oS oI xS xI)
    have HRF := Lib.hid (RFlows_calls xS xI oS oI)
    have HL2 := Lib.hid (evL_two Q r oS oI oT oF xS xI xT xF way)
    generalize flowsB xS xI oS oI = fb at HTO HRF
    generalize evL Q r oS oI oT oF xS xI xT xF way = ls at HE HRE HL2
    generalize mayF Q r oS oI oT oF xS xI xT xF way = p1 at HM HRM
    obtain ⟨u1, e1⟩ := p1
    simp only [mayV] at HM HRM
    clear HT HAL
    go_wp2_with (refine wpList_load_row rfl 29 _ rfl _ rfl 29 _ (0, 0) _ (HA3.out.row 2 rfl) Tryd.underlying29 rfl polC_size ?_)
    refine (HM.out _ HA3.out.below).mono ?_
    rintro e w4x ⟨rfl, hb⟩
    have HA4 := Lib.hid (HA3.out.call hb)
    clear hb HA3
    clear y0 y1 y2 y3 y4 y5 y6 y7 y8 s0 s1 s2 s3 t0 t1 t2 t3
    obtain ⟨y0, y1, y2, y3, y4, y5, y6, y7, y8⟩ := ask_cells HA4.out (k := 3) rfl
    obtain ⟨s0, s1, s2, s3⟩ := s4_cells HA4.out (k := 1) rfl
    obtain ⟨t0, t1, t2, t3⟩ := s4_cells HA4.out (k := 0) rfl
    go_wp2_with (refine wpList_load_row rfl 29 _ rfl _ rfl 29 _ (0, 0) _ (HA4.out.row 2 rfl) Tryd.underlying29 rfl polC_size ?_)
    refine (HRM.out _).mono ?_
    rintro e w5 ⟨rfl, hb⟩
    have HA5 := Lib.hid (HA4.out.call hb)
    clear hb HA4 HM HRM
    clear y0 y1 y2 y3 y4 y5 y6 y7 y8 s0 s1 s2 s3 t0 t1 t2 t3
    obtain ⟨y0, y1, y2, y3, y4, y5, y6, y7, y8⟩ := ask_cells HA5.out (k := 3) rfl
    obtain ⟨s0, s1, s2, s3⟩ := s4_cells HA5.out (k := 1) rfl
    obtain ⟨t0, t1, t2, t3⟩ := s4_cells HA5.out (k := 0) rfl
    obtain ⟨J, hJ⟩ : ∃ J : World → Prop, ∀ W, J W ↔ Below w5.heap.size w5 W := ⟨_, fun _ => Iff.rfl⟩
    have kc := fun {p : Addr} {u : Value} (hc : w5.cell? p = some u) (W : World) (h : J W) => (((hJ W).1 h).cell (World.block_lt_of_cell? w5 _ hc)).trans hc
    have K := fun W (h : J W) => (And.intro (kc y0 W h) (And.intro (kc y1 W h) (And.intro (kc y2 W h) (And.intro (kc y3 W h) (And.intro (kc y4 W h) (And.intro (kc y5 W h) (And.intro (kc y6 W h) (And.intro (kc y7 W h) (And.intro (kc y8 W h) (And.intro (kc s0 W h) (And.intro (kc s1 W h) (And.intro (kc s2 W h) (And.intro (kc s3 W h) (And.intro (kc t0 W h) (And.intro (kc t1 W h) (And.intro (kc t2 W h) (kc t3 W h)))))))))))))))))
    have KP := fun W (h : J W) => ((((hJ W).1 h).block _ (blk_lt (HA5.out.row 2 rfl))).trans (HA5.out.row 2 rfl))
    have HJ := Lib.hid hJ
    have hj5 := (HJ.out w5.drew).2 ((Below.refl _ _).drew)
    clear hJ kc
    go_wp2_with fail
    clear y0 y1 y2 y3 y4 y5 y6 y7 y8 s0 s1 s2 s3 t0 t1 t2 t3
    refine Turn.region_seq [0, 1, 2, 3, 4, 5, 7, 8, 9, 10, 11, 12, 13, 14, 6, 15, 16, 17] (fun i => i == 6 || i == 15) J (by kernel_rfl) (by kernel_rfl) hj5 ?_
    repeat (first | (apply seq_load_row w1.heap.size 29 ⟨polC Q⟩ (0, 0) _ 29 KP Tryd.underlying29 rfl polC_size; (· simp only [List.getElem?_toArray, List.getElem?_cons_succ, List.getElem?_cons_zero]; rfl); (· rfl); (· go_simp); (· rfl); (· go_simp); (· go_simp; rfl)) | (apply Turn.seq_yes; (· simp only [List.getElem?_toArray, List.getElem?_cons_succ, List.getElem?_cons_zero]; rfl); (· rfl); (· go_simp); (· intro v1 h1; obtain ⟨y0, y1, y2, y3, y4, y5, y6, y7, y8, s0, s1, s2, s3, t0, t1, t2, t3⟩ := K v1 h1; go_simp; exact ⟨rfl, h1⟩); (· go_simp; rfl)) | (apply Turn.seq_no; (· simp only [List.getElem?_toArray, List.getElem?_cons_succ, List.getElem?_cons_zero]; rfl); (· go_simp); (· go_simp; rfl)))
    apply Turn.seq_call
    · simp only [List.getElem?_toArray, List.getElem?_cons_succ, List.getElem?_cons_zero]; rfl
    · rfl
    · go_simp
    · intro v; go_simp; rfl
    go_simp
    refine (HE.out _ (HA5.out.below.trans (((HJ.out _).1 hj5).mono HA5.out.below.size))).mono ?_
    rintro e w6 ⟨A1, ge1, ce1, rfl, hev1, hb⟩
    have hj6 := (HJ.out _).2 (((HJ.out _).1 hj5).trans (hb.mono ((HJ.out _).1 hj5).size))
    have HV1 := Lib.hid hev1
    clear hb hj5 hev1 HE
    refine ⟨_, rfl, hj6, ?_⟩
    repeat (first | (apply seq_load_row w1.heap.size 29 ⟨polC Q⟩ (0, 0) _ 29 KP Tryd.underlying29 rfl polC_size; (· simp only [List.getElem?_toArray, List.getElem?_cons_succ, List.getElem?_cons_zero]; rfl); (· rfl); (· go_simp); (· rfl); (· go_simp); (· go_simp; rfl)) | (apply Turn.seq_yes; (· simp only [List.getElem?_toArray, List.getElem?_cons_succ, List.getElem?_cons_zero]; rfl); (· rfl); (· go_simp); (· intro v1 h1; obtain ⟨y0, y1, y2, y3, y4, y5, y6, y7, y8, s0, s1, s2, s3, t0, t1, t2, t3⟩ := K v1 h1; go_simp; exact ⟨rfl, h1⟩); (· go_simp; rfl)) | (apply Turn.seq_no; (· simp only [List.getElem?_toArray, List.getElem?_cons_succ, List.getElem?_cons_zero]; rfl); (· go_simp); (· go_simp; rfl)))
    apply Turn.seq_call
    · simp only [List.getElem?_toArray, List.getElem?_cons_succ, List.getElem?_cons_zero]; rfl
    · rfl
    · go_simp
    · intro v; go_simp; rfl
    go_simp
    refine (HRE.out _).mono ?_
    rintro e w7 ⟨A2, ge2, ce2, rfl, hev2, hb⟩
    have hj7 := (HJ.out _).2 (((HJ.out _).1 hj6).trans (hb.mono ((HJ.out _).1 hj6).size))
    have HV2 := Lib.hid hev2
    have HV3 := Lib.hid (fun h => And.intro (HV1.out h).1 ((HV1.out h).2.below hb))
    clear hb hj6 hev2 HRE HV1
    refine ⟨_, rfl, hj7, ?_⟩
    repeat (first | (apply seq_load_row w1.heap.size 29 ⟨polC Q⟩ (0, 0) _ 29 KP Tryd.underlying29 rfl polC_size; (· simp only [List.getElem?_toArray, List.getElem?_cons_succ, List.getElem?_cons_zero]; rfl); (· rfl); (· go_simp); (· rfl); (· go_simp); (· go_simp; rfl)) | (apply Turn.seq_yes; (· simp only [List.getElem?_toArray, List.getElem?_cons_succ, List.getElem?_cons_zero]; rfl); (· rfl); (· go_simp); (· intro v1 h1; obtain ⟨y0, y1, y2, y3, y4, y5, y6, y7, y8, s0, s1, s2, s3, t0, t1, t2, t3⟩ := K v1 h1; go_simp; exact ⟨rfl, h1⟩); (· go_simp; rfl)) | (apply Turn.seq_no; (· simp only [List.getElem?_toArray, List.getElem?_cons_succ, List.getElem?_cons_zero]; rfl); (· go_simp); (· go_simp; rfl)))
    apply Turn.seq_nil
    have HA7 := Lib.hid (HA5.out.call ((HJ.out _).1 hj7))
    clear K KP HJ hj7 HA5 J
    obtain ⟨y0, y1, y2, y3, y4, y5, y6, y7, y8⟩ := ask_cells HA7.out (k := 3) rfl
    obtain ⟨s0, s1, s2, s3⟩ := s4_cells HA7.out (k := 1) rfl
    obtain ⟨t0, t1, t2, t3⟩ := s4_cells HA7.out (k := 0) rfl
    obtain ⟨J, hJ⟩ : ∃ J : World → Prop, ∀ W, J W ↔ Below w7.heap.size w7 W := ⟨_, fun _ => Iff.rfl⟩
    have kc := fun {p : Addr} {u : Value} (hc : w7.cell? p = some u) (W : World) (h : J W) => (((hJ W).1 h).cell (World.block_lt_of_cell? w7 _ hc)).trans hc
    have K := fun W (h : J W) => (And.intro (kc y0 W h) (And.intro (kc y1 W h) (And.intro (kc y2 W h) (And.intro (kc y3 W h) (And.intro (kc y4 W h) (And.intro (kc y5 W h) (And.intro (kc y6 W h) (And.intro (kc y7 W h) (And.intro (kc y8 W h) (And.intro (kc s0 W h) (And.intro (kc s1 W h) (And.intro (kc s2 W h) (And.intro (kc s3 W h) (And.intro (kc t0 W h) (And.intro (kc t1 W h) (And.intro (kc t2 W h) (kc t3 W h)))))))))))))))))
    have HJ := Lib.hid hJ
    have hj7 := (HJ.out w7.drew).2 ((Below.refl _ _).drew)
    have e0 : (nH u1 == nH u1) = true := by simp
    have e2 : (e1 == e1) = true := by simp
    clear hJ kc
    go_wp2_with fail
    clear y0 y1 y2 y3 y4 y5 y6 y7 y8 s0 s1 s2 s3 t0 t1 t2 t3
    refine Turn.region_seq [0, 1, 2, 3, 4, 5, 6, 7, 8, 9, 10, 11, 12, 13, 14, 15, 16, 17, 19, 20, 21, 22, 18, 23, 24, 25, 26, 27, 28, 29] (fun i => i == 11 || i == 18 || i == 23 || i == 27) J (by kernel_rfl) (by kernel_rfl) hj7 ?_
    repeat (first | (apply Turn.seq_yes; (· simp only [List.getElem?_toArray, List.getElem?_cons_succ, List.getElem?_cons_zero]; rfl); (· rfl); (· go_simp); (· intro v1 h1; obtain ⟨y0, y1, y2, y3, y4, y5, y6, y7, y8, s0, s1, s2, s3, t0, t1, t2, t3⟩ := K v1 h1; go_simp; exact ⟨rfl, h1⟩); (· go_simp; rfl)) | (apply Turn.seq_no; (· simp only [List.getElem?_toArray, List.getElem?_cons_succ, List.getElem?_cons_zero]; rfl); (· go_simp); (· go_simp; rfl)))
    apply Turn.seq_call
    · simp only [List.getElem?_toArray, List.getElem?_cons_succ, List.getElem?_cons_zero]; rfl
    · rfl
    · go_simp
    · intro v; go_simp; rfl
    go_simp
    refine (Same_calls oT r oS oI ls ls.length ce1 ce2 ge1 ge2 A1 A2 rfl (Nat.le_trans HL2.out (by decide)) w7.drew (fun h => ⟨(HV3.out h).1, (HV3.out h).2.below ((Below.refl _ _).drew)⟩) (fun h => ⟨(HV2.out h).1, (HV2.out h).2.below ((Below.refl _ _).drew)⟩)).mono ?_
    rintro e w8 ⟨rfl, hb⟩
    have hj8 := (HJ.out _).2 (((HJ.out _).1 hj7).trans (hb.mono ((HJ.out _).1 hj7).size))
    clear hb hj7
    refine ⟨_, rfl, hj8, ?_⟩
    repeat (first | (apply Turn.seq_yes; (· simp only [List.getElem?_toArray, List.getElem?_cons_succ, List.getElem?_cons_zero]; rfl); (· rfl); (· go_simp); (· intro v1 h1; obtain ⟨y0, y1, y2, y3, y4, y5, y6, y7, y8, s0, s1, s2, s3, t0, t1, t2, t3⟩ := K v1 h1; go_simp; exact ⟨rfl, h1⟩); (· go_simp; rfl)) | (apply Turn.seq_no; (· simp only [List.getElem?_toArray, List.getElem?_cons_succ, List.getElem?_cons_zero]; rfl); (· go_simp); (· go_simp; rfl)))
    apply Turn.seq_call
    · simp only [List.getElem?_toArray, List.getElem?_cons_succ, List.getElem?_cons_zero]; rfl
    · rfl
    · go_simp
    · intro v; go_simp; rfl
    go_simp
    refine (HTO.out _).mono ?_
    rintro e w9 ⟨rfl, hb⟩
    have hj9 := (HJ.out _).2 (((HJ.out _).1 hj8).trans (hb.mono ((HJ.out _).1 hj8).size))
    clear hb hj8
    refine ⟨_, rfl, hj9, ?_⟩
    repeat (first | (apply Turn.seq_yes; (· simp only [List.getElem?_toArray, List.getElem?_cons_succ, List.getElem?_cons_zero]; rfl); (· rfl); (· go_simp); (· intro v1 h1; obtain ⟨y0, y1, y2, y3, y4, y5, y6, y7, y8, s0, s1, s2, s3, t0, t1, t2, t3⟩ := K v1 h1; go_simp; exact ⟨rfl, h1⟩); (· go_simp; rfl)) | (apply Turn.seq_no; (· simp only [List.getElem?_toArray, List.getElem?_cons_succ, List.getElem?_cons_zero]; rfl); (· go_simp); (· go_simp; rfl)))
    apply Turn.seq_call
    · simp only [List.getElem?_toArray, List.getElem?_cons_succ, List.getElem?_cons_zero]; rfl
    · rfl
    · go_simp
    · intro v; go_simp; rfl
    go_simp
    refine (HRF.out _).mono ?_
    rintro e w10 ⟨rfl, hb⟩
    have hj10 := (HJ.out _).2 (((HJ.out _).1 hj9).trans (hb.mono ((HJ.out _).1 hj9).size))
    clear hb hj9
    refine ⟨_, rfl, hj10, ?_⟩
    have e3 : (fb == fb) = true := by simp
    repeat (first | (apply Turn.seq_yes; (· simp only [List.getElem?_toArray, List.getElem?_cons_succ, List.getElem?_cons_zero]; rfl); (· rfl); (· go_simp); (· intro v1 h1; obtain ⟨y0, y1, y2, y3, y4, y5, y6, y7, y8, s0, s1, s2, s3, t0, t1, t2, t3⟩ := K v1 h1; go_simp; exact ⟨rfl, h1⟩); (· go_simp; rfl)) | (apply Turn.seq_no; (· simp only [List.getElem?_toArray, List.getElem?_cons_succ, List.getElem?_cons_zero]; rfl); (· go_simp); (· go_simp; rfl)))
    apply Turn.seq_call
    · simp only [List.getElem?_toArray, List.getElem?_cons_succ, List.getElem?_cons_zero]; rfl
    · rfl
    · go_simp
    · intro v; go_simp; rfl
    go_simp
    refine (HAL2.out _ (HA7.out.below.trans (((HJ.out _).1 hj10).mono HA7.out.below.size))).mono ?_
    rintro e w11 ⟨rfl, hb⟩
    have hj11 := (HJ.out _).2 (((HJ.out _).1 hj10).trans (hb.mono ((HJ.out _).1 hj10).size))
    clear hb hj10
    refine ⟨_, rfl, hj11, ?_⟩
    repeat (first | (apply Turn.seq_yes; (· simp only [List.getElem?_toArray, List.getElem?_cons_succ, List.getElem?_cons_zero]; rfl); (· rfl); (· go_simp); (· intro v1 h1; obtain ⟨y0, y1, y2, y3, y4, y5, y6, y7, y8, s0, s1, s2, s3, t0, t1, t2, t3⟩ := K v1 h1; go_simp; exact ⟨rfl, h1⟩); (· go_simp; rfl)) | (apply Turn.seq_no; (· simp only [List.getElem?_toArray, List.getElem?_cons_succ, List.getElem?_cons_zero]; rfl); (· go_simp); (· go_simp; rfl)))
    apply Turn.seq_nil
    have HA11 := Lib.hid (HA7.out.call ((HJ.out _).1 hj11))
    clear K HJ hj11 HA7 J
    go_wp2_with fail
    go_ret
    exact ⟨rfl, HA11.out.below⟩
end Go.Proofs.YtohdldlagkmcnaaDoor.Mv
