/- Chapter 30: MoveBoth (printed by gen/mvlaw.py). -/
import Derived.Test.YtohdldlagkmcnaaDoorMvI
namespace Go.Proofs.YtohdldlagkmcnaaDoor.Mv
set_option linter.unusedSimpArgs false
set_option linter.unusedVariables false
open Go.RowKit
open _root_.Go.Proofs.YtohdldlagkmcnaaDoor.Own
open Go.Proofs.YtohdldlagkmcnaaDoor.Pl
attribute [local go_sem] b16_and b16_or b16_andNot
theorem both_plain (Q : Pol) (r : Int) (oS oI : BitVec 16) (oT : Int) (oF : Bool) (xS xI : BitVec 16) (xT : Int) (xF : Bool) :
    ((mayF Q r oS oI oT oF xS xI xT xF 3).2 = 0 ∧ (mayF Q r oS oI oT oF xS xI xT xF 1).2 = 0 ∧ (mayF Q r oS oI oT oF xS xI xT xF 2).2 = 0 ∧ (mayF Q r oS oI oT oF xS xI xT xF 3).1 = (mayF Q r oS oI oT oF xS xI xT xF 1).1 ||| (mayF Q r oS oI oT oF xS xI xT xF 2).1) ∨
    ((mayF Q r oS oI oT oF xS xI xT xF 3).2 ≠ 0 ∧ (mayF Q r oS oI oT oF xS xI xT xF 3).1 = 0#16 ∧ ((mayF Q r oS oI oT oF xS xI xT xF 1).2 = 0 ∧ (mayF Q r oS oI oT oF xS xI xT xF 2).2 ≠ 0 ∨ (mayF Q r oS oI oT oF xS xI xT xF 1).2 ≠ 0)) := by
  unfold mayF
  rw [if_neg (show ¬ ((1 : Int) < 1 ∨ (1 : Int) > 3) by decide), if_neg (show ¬ ((2 : Int) < 1 ∨ (2 : Int) > 3) by decide), if_neg (show ¬ ((3 : Int) < 1 ∨ (3 : Int) > 3) by decide)]
  by_cases h1 : oF = true ∨ xF = true
  · simp only [if_pos h1]
    simp
  · simp only [if_neg h1]
    by_cases h2 : oT ≠ xT
    · simp only [if_pos h2]
      simp
    · simp only [if_neg h2]
      simp only [usedW, if_true, show ¬ ((2 : Int) = 1) from by decide, show ¬ ((3 : Int) = 1) from by decide, show ¬ ((3 : Int) = 2) from by decide, if_false]
      rw [or_less]
      generalize uB oS oI xS xI = a
      generalize uB xS xI oS oI = b
      generalize capsF Q r oS oI = c
      cases h3 : (a &&& ~~~c == 0#16) <;> cases h4 : (b &&& ~~~c == 0#16) <;> simp [BitVec.or_comm]
set_option maxRecDepth 10000 in
set_option maxHeartbeats 16000000 in
theorem both_walk (P : Pol) (r : Int) (oS oI : BitVec 16) (oT : Int) (oF : Bool) (xS xI : BitVec 16) (xT : Int) (xF : Bool) (w : World) (hT : Table w) (hw1 : 1 ≤ w.heap.size) :
    Calls Tryd.prog 4 #[.agg ⟨askC P r oS oI oT oF xS xI xT xF⟩] w fun e w' => e = .returned (.bool true) ∧ Below w.heap.size w w' := by
  have hA := (At.refl w).alloc (askC P r oS oI oT oF xS xI xT xF) 33
  have HT := Lib.hid (And.intro hT hw1)
  have HA := Lib.hid hA
  have HAL := Lib.hid (fun (W : World) (hT : Table W) (hw1 : 1 ≤ W.heap.size) => alive30 W hT hw1)
  clear hA hT hw1
  go_enter Tryd.func4, Tryd.ntmps4
  go_wp2_with (refine wpList_load_part rfl 29 _ rfl w.heap.size 0 rfl 33 (askC P r oS oI oT oF xS xI xT xF) (polC P) 66 (0, 0) _ (HA.out.row 0 rfl) Tryd.underlying29 rfl pol_size' (polC_length P) (fun i hi => ask_pol i hi) ?_)
  refine (Mend_calls P _).mono ?_
  rintro e w1 ⟨Q, rfl, hb1⟩
  have A1 := (HA.out.call hb1).alloc (polC PZ) 29
  have hA2 := A1.setRow 0 rfl ⟨polC Q⟩
  simp only [List.set_cons_zero, List.set_cons_succ] at hA2
  clear hb1 HA
  go_upto_region 2 with (first | refine wpList_alloc_arr rfl 29 rfl (polC PZ) polC_zero ?_ | refine wpList_store_row rfl 29 _ _ rfl _ _ rfl rfl 29 _ (A1.row 0 rfl) polC_size polC_old polC_one ?_)
  generalize World.setRow _ _ _ = w2 at hA2 ⊢
  have HA2 := Lib.hid hA2
  clear A1 hA2
  go_simp
  go_cut [4, 5] (fun o x wx => ∃ g1 g2 : Nat, o = .pointer (some ⟨g1, 0, none⟩) ∧ x = .pointer (some ⟨g2, 0, none⟩) ∧ Hid (At w (LL w P r oS oI oT oF xS xI xT xF Q w1.heap.size g1 g2) wx))
  case first =>
    obtain ⟨y0, y1, y2, y3, y4, y5, y6, y7, y8⟩ := ask_cells HA2.out (k := 1) rfl
    have hy := (HA2.out.rules _ (List.mem_cons_of_mem _ (List.mem_cons_self ..))).2.2.1
    have hB1 := ((HA2.out.alloc (sideC oS oI oT oF) 35).alloc (sideC xS xI xT xF) 35)
    have hB2 := (at_swap ((HA2.out.alloc (sideC xS xI xT xF) 35).alloc (sideC oS oI oT oF) 35))
    simp only [World.size_alloc] at hB1 hB2
    have HB1 := Lib.hid hB1
    have HB2 := Lib.hid hB2
    clear hB1 hB2
    go_region
    all_goals (go_wp2_with fail; go_meet; first | exact ⟨_, _, rfl, rfl, Lib.hid HB1.out.drew⟩ | exact ⟨_, _, rfl, rfl, Lib.hid HB2.out.drew⟩)
  case rest =>
    obtain ⟨w3, rfl⟩ : ∃ x : World, x = wc := ⟨_, rfl⟩
    obtain ⟨g1, g2, rfl, rfl, HA3⟩ := hcut
    obtain ⟨y0, y1, y2, y3, y4, y5, y6, y7, y8⟩ := ask_cells HA3.out (k := 3) rfl
    obtain ⟨s0, s1, s2, s3⟩ := s4_cells HA3.out (k := 1) rfl
    obtain ⟨t0, t1, t2, t3⟩ := s4_cells HA3.out (k := 0) rfl
    clear HA2
    have HM := Lib.hid (fun way V (hb : Below w.heap.size w V) => May_calls Q r oS oI oT oF xS xI xT xF way V (HT.out.1.below (hb.mono HT.out.2)) (Nat.le_trans HT.out.2 hb.size))
    have HAL2 := Lib.hid (fun V (hb : Below w.heap.size w V) => HAL.out V (HT.out.1.below (hb.mono HT.out.2)) (Nat.le_trans HT.out.2 hb.size))
    have hpl := both_plain Q r oS oI oT oF xS xI xT xF
    have HM1 := Lib.hid (HM.out 1)
    have HM2 := Lib.hid (HM.out 2)
    have HM3 := Lib.hid (HM.out 3)
    generalize mayF Q r oS oI oT oF xS xI xT xF 1 = p1 at HM1 hpl
    generalize mayF Q r oS oI oT oF xS xI xT xF 2 = p2 at HM2 hpl
    generalize mayF Q r oS oI oT oF xS xI xT xF 3 = p3 at HM3 hpl
    obtain ⟨u1, e1⟩ := p1
    obtain ⟨u2, e2⟩ := p2
    obtain ⟨u3, e3⟩ := p3
    simp only at hpl
    have HPL := Lib.hid hpl
    clear hpl HM HAL HT
    simp only [mayV] at HM1 HM2 HM3
    go_wp2_with (refine wpList_load_row rfl 29 _ rfl _ rfl 29 _ (0, 0) _ (HA3.out.row 2 rfl) Tryd.underlying29 rfl polC_size ?_)
    refine (HM1.out _ HA3.out.below).mono ?_
    rintro e w4x ⟨rfl, hb⟩
    have HA4 := Lib.hid (HA3.out.call hb)
    clear hb HA3
    clear y0 y1 y2 y3 y4 y5 y6 y7 y8 s0 s1 s2 s3 t0 t1 t2 t3
    obtain ⟨y0, y1, y2, y3, y4, y5, y6, y7, y8⟩ := ask_cells HA4.out (k := 3) rfl
    obtain ⟨s0, s1, s2, s3⟩ := s4_cells HA4.out (k := 1) rfl
    obtain ⟨t0, t1, t2, t3⟩ := s4_cells HA4.out (k := 0) rfl
    go_wp2_with (refine wpList_load_row rfl 29 _ rfl _ rfl 29 _ (0, 0) _ (HA4.out.row 2 rfl) Tryd.underlying29 rfl polC_size ?_)
    refine (HM2.out _ HA4.out.below).mono ?_
    rintro e w5x ⟨rfl, hb⟩
    have HA5 := Lib.hid (HA4.out.call hb)
    clear hb HA4
    clear y0 y1 y2 y3 y4 y5 y6 y7 y8 s0 s1 s2 s3 t0 t1 t2 t3
    obtain ⟨y0, y1, y2, y3, y4, y5, y6, y7, y8⟩ := ask_cells HA5.out (k := 3) rfl
    obtain ⟨s0, s1, s2, s3⟩ := s4_cells HA5.out (k := 1) rfl
    obtain ⟨t0, t1, t2, t3⟩ := s4_cells HA5.out (k := 0) rfl
    go_wp2_with (refine wpList_load_row rfl 29 _ rfl _ rfl 29 _ (0, 0) _ (HA5.out.row 2 rfl) Tryd.underlying29 rfl polC_size ?_)
    refine (HM3.out _ HA5.out.below).mono ?_
    rintro e w6x ⟨rfl, hb⟩
    have HA6 := Lib.hid (HA5.out.call hb)
    clear hb HA5
    clear y0 y1 y2 y3 y4 y5 y6 y7 y8 s0 s1 s2 s3 t0 t1 t2 t3
    obtain ⟨y0, y1, y2, y3, y4, y5, y6, y7, y8⟩ := ask_cells HA6.out (k := 3) rfl
    obtain ⟨s0, s1, s2, s3⟩ := s4_cells HA6.out (k := 1) rfl
    obtain ⟨t0, t1, t2, t3⟩ := s4_cells HA6.out (k := 0) rfl
    clear y0 y1 y2 y3 y4 y5 y6 y7 y8 s0 s1 s2 s3 t0 t1 t2 t3
    have HOR := Lib.hid (b16_or u1 u2)
    rcases HPL.out with ⟨rfl, rfl, rfl, rfl⟩ | ⟨h3, rfl, ⟨rfl, h2⟩ | h1⟩
    · go_wp2_with fail
      refine (HAL2.out _ HA6.out.below).mono ?_
      rintro e w7x ⟨rfl, hb⟩
      have HA7 := Lib.hid (HA6.out.call hb)
      clear hb HA6
      go_wp2_with fail
      go_ret
      exact ⟨rfl, HA7.out.below⟩
    · have d3 : (e3 == 0) = false := by rw [beq_eq_false_iff_ne]; exact h3
      have d4 : (e3 != 0) = true := by rw [bne_iff_ne]; exact h3
      have d2 : (e2 == 0) = false := by rw [beq_eq_false_iff_ne]; exact h2
      clear h3 h2 HPL
      go_wp2_with fail
      refine (HAL2.out _ HA6.out.below).mono ?_
      rintro e w7x ⟨rfl, hb⟩
      have HA7 := Lib.hid (HA6.out.call hb)
      clear hb HA6
      go_wp2_with fail
      go_ret
      exact ⟨rfl, HA7.out.below⟩
    · have d3 : (e3 == 0) = false := by rw [beq_eq_false_iff_ne]; exact h3
      have d4 : (e3 != 0) = true := by rw [bne_iff_ne]; exact h3
      have d2 : (e1 == 0) = false := by rw [beq_eq_false_iff_ne]; exact h1
      clear h3 h1 HPL
      go_wp2_with fail
      refine (HAL2.out _ HA6.out.below).mono ?_
      rintro e w7x ⟨rfl, hb⟩
      have HA7 := Lib.hid (HA6.out.call hb)
      clear hb HA6
      go_wp2_with fail
      go_ret
      exact ⟨rfl, HA7.out.below⟩
end Go.Proofs.YtohdldlagkmcnaaDoor.Mv
