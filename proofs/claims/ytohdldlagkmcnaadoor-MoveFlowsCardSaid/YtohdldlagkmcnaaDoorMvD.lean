/- Chapter 30: the reference's May. -/
import Derived.Test.YtohdldlagkmcnaaDoorMvC
namespace Go.Proofs.YtohdldlagkmcnaaDoor.Mv
set_option linter.unusedSimpArgs false
set_option linter.unusedVariables false
open Go.RowKit
open _root_.Go.Proofs.YtohdldlagkmcnaaDoor.Own
open Go.Proofs.YtohdldlagkmcnaaDoor.Pl
attribute [local go_sem] b16_and b16_or b16_andNot
theorem or_less (x y c : BitVec 16) : ((x ||| y) &&& ~~~c == 0#16) = ((x &&& ~~~c == 0#16) && (y &&& ~~~c == 0#16)) := by
  have e : (x ||| y) &&& ~~~c = (x &&& ~~~c) ||| (y &&& ~~~c) := by ext i; simp [Bool.and_or_distrib_right]
  rw [e]
  generalize x &&& ~~~c = p
  generalize y &&& ~~~c = q
  rw [Bool.eq_iff_iff]
  simp only [beq_iff_eq, Bool.and_eq_true]
  constructor
  · intro h
    refine ⟨?_, ?_⟩ <;> apply BitVec.eq_of_getLsbD_eq <;> intro i hi <;> have := congrArg (fun z : BitVec 16 => z.getLsbD i) h <;> simp only [BitVec.getLsbD_or, BitVec.getLsbD_zero] at this ⊢
    · exact (Bool.or_eq_false_iff.1 this).1
    · exact (Bool.or_eq_false_iff.1 this).2
  · rintro ⟨rfl, rfl⟩; rfl
theorem flows_caps (aS aI bS bI c : BitVec 16) : flowsB (aS &&& ~~~c) (aI ||| c) bS bI = (uB aS aI bS bI &&& ~~~c == 0#16) := by
  unfold uB
  rw [or_less]
  unfold flowsB
  rw [show aS &&& ~~~bS &&& ~~~c = aS &&& ~~~c &&& ~~~bS from by ext i; simp [Bool.and_right_comm], show bI &&& ~~~aI &&& ~~~c = bI &&& ~~~(aI ||| c) from by ext i; simp [Bool.and_assoc]]
abbrev sideR (w : World) (P : Pol) (oS oI : BitVec 16) (oT : Int) (oF : Bool) (xS xI : BitVec 16) (xT : Int) (xF : Bool) : List (Nat × List Value × TypeId) :=
  [(w.heap.size + 1 + 1, [.int .u16 (nH xS), .int .u16 (nH xI), .int .i64 xT, .bool xF], 31), (w.heap.size + 1, [.int .u16 (nH oS), .int .u16 (nH oI), .int .i64 oT, .bool oF], 31), (w.heap.size, polC P, 29)]
theorem side_cells {w V : World} {P : Pol} {oS oI : BitVec 16} {oT : Int} {oF : Bool} {xS xI : BitVec 16} {xT : Int} {xF : Bool} (h : At w (sideR w P oS oI oT oF xS xI xT xF) V) : V.cell? ⟨w.heap.size + 1, 0, none⟩ = some (.int .u16 (nH oS)) ∧ V.cell? ⟨w.heap.size + 1, 1, none⟩ = some (.int .u16 (nH oI)) ∧ V.cell? ⟨w.heap.size + 1 + 1, 0, none⟩ = some (.int .u16 (nH xS)) ∧ V.cell? ⟨w.heap.size + 1 + 1, 1, none⟩ = some (.int .u16 (nH xI)) :=
  ⟨(h.rules _ (List.mem_cons_of_mem _ (List.mem_cons_self ..))).1 0, (h.rules _ (List.mem_cons_of_mem _ (List.mem_cons_self ..))).1 1, (h.rules _ (List.mem_cons_self ..)).1 0, (h.rules _ (List.mem_cons_self ..)).1 1⟩
set_option maxRecDepth 10000 in
set_option maxHeartbeats 8000000 in
theorem RMay_calls (P : Pol) (r : Int) (oS oI : BitVec 16) (oT : Int) (oF : Bool) (xS xI : BitVec 16) (xT : Int) (xF : Bool) (way : Int) (w : World) :
    Calls Tryd.prog 8 #[.agg ⟨polC P⟩, .int .i64 r, sideV oS oI oT oF, sideV xS xI xT xF, .int .i64 way] w fun e w' => e = .returned (mayV (mayF P r oS oI oT oF xS xI xT xF way)) ∧ Below w.heap.size w w' := by
  have hA := (((At.refl w).alloc (polC P) 29).alloc [.int .u16 (nH oS), .int .u16 (nH oI), .int .i64 oT, .bool oF] 31).alloc [.int .u16 (nH xS), .int .u16 (nH xI), .int .i64 xT, .bool xF] 31
  simp only [World.size_alloc] at hA
  have HA := Lib.hid (show At w (sideR w P oS oI oT oF xS xI xT xF) _ from hA)
  clear hA
  by_cases c1 : way < 1
  · have hres : mayF P r oS oI oT oF xS xI xT xF way = (0#16, 1) := if_pos (.inl c1)
    have HR := Lib.hid hres
    have d1 := decide_eq_true c1
    clear c1 hres
    go_enter Tryd.func8, Tryd.ntmps8
    go_wp2_with fail
    go_ret2
    rw [HR.out]
    exact ⟨rfl, HA.out.below⟩
  · have d1 := decide_eq_false c1
    by_cases c2 : way > 3
    · have hres : mayF P r oS oI oT oF xS xI xT xF way = (0#16, 1) := if_pos (.inr c2)
      have HR := Lib.hid hres
      have d2 := decide_eq_true c2
      clear c1 c2 hres
      go_enter Tryd.func8, Tryd.ntmps8
      go_wp2_with fail
      go_ret2
      rw [HR.out]
      exact ⟨rfl, HA.out.below⟩
    · have d2 := decide_eq_false c2
      have hW : way = 1 ∨ way = 2 ∨ way = 3 := by omega
      have HW := Lib.hid hW
      have hn : ¬ (way < 1 ∨ way > 3) := by omega
      have HN := Lib.hid hn
      clear c1 c2 hn hW
      by_cases c3 : oF = true ∨ xF = true
      · have hres : mayF P r oS oI oT oF xS xI xT xF way = (0#16, 11) := by unfold mayF; rw [if_neg HN.out, if_pos c3]
        have HR := Lib.hid hres
        clear hres
        have c4 : oF = true ∨ (oF = false ∧ xF = true) := by cases oF with | true => exact .inl rfl | false => exact .inr ⟨rfl, by simpa using c3⟩
        clear c3
        rcases c4 with rfl | ⟨rfl, rfl⟩
        all_goals
          go_enter Tryd.func8, Tryd.ntmps8
          go_wp2_with fail
          go_ret2
          rw [HR.out]
          exact ⟨rfl, HA.out.below⟩
      · obtain ⟨rfl, rfl⟩ : oF = false ∧ xF = false := by simpa using c3
        have HF := Lib.hid c3
        clear c3
        by_cases c4 : oT = xT
        · have e4 : (oT != xT) = false := by rw [bne_eq_false_iff_eq]; exact c4
          have hres : mayF P r oS oI oT false xS xI xT false way = if (usedW way oS oI xS xI &&& ~~~(capsF P r oS oI) == 0#16) = true then (usedW way oS oI xS xI, 0) else (0#16, 9) := by unfold mayF; rw [if_neg HN.out, if_neg HF.out, if_neg (by simpa using c4)]
          have hC := RCaps_calls P r oS oI
          have hF1 := R3Flows_calls oS oI xS xI (capsF P r oS oI)
          have hF2 := R3Flows_calls xS xI oS oI (capsF P r oS oI)
          have hU1 := RUsed_calls oS oI xS xI
          have hU2 := RUsed_calls xS xI oS oI
          change ∀ w, Calls _ _ _ _ fun e w' => e = .returned (.int .u16 (nH (uB oS oI xS xI))) ∧ _ at hU1
          change ∀ w, Calls _ _ _ _ fun e w' => e = .returned (.int .u16 (nH (uB xS xI oS oI))) ∧ _ at hU2
          rw [flows_caps] at hF1 hF2
          unfold usedW at hres
          generalize uB oS oI xS xI = U1 at *
          generalize uB xS xI oS oI = U2 at *
          generalize capsF P r oS oI = C at *
          have hol := or_less U2 U1 C
          obtain ⟨b1, hb1⟩ : ∃ b, (U1 &&& ~~~C == 0#16) = b := ⟨_, rfl⟩
          obtain ⟨b2, hb2⟩ : ∃ b, (U2 &&& ~~~C == 0#16) = b := ⟨_, rfl⟩
          rw [hb1, hb2] at hol
          rw [hb1] at hF1
          rw [hb2] at hF2
          have HC := Lib.hid hC
          have HF1 := Lib.hid hF1
          have HF2 := Lib.hid hF2
          have HU1 := Lib.hid hU1
          have HU2 := Lib.hid hU2
          have HO := Lib.hid (Or_calls 0#16 U2)
          rw [BitVec.zero_or] at HO
          have HO3 := Lib.hid (Or_calls U1 U2)
          rw [BitVec.or_comm] at HO3
          have HRES := Lib.hid hres
          have HB := Lib.hid (And.intro hb1 (And.intro hb2 hol))
          clear hC hF1 hF2 hU1 hU2 hol hb1 hb2 hres c4 HF
          rcases HW.out with rfl | rfl | rfl
          · have hr := HRES.out
            rw [if_pos rfl, HB.out.1] at hr
            have HRW := Lib.hid hr
            clear hr HRES HB
            cases b1 with
            | true =>
              go_enter Tryd.func8, Tryd.ntmps8
              go_wp2_with (refine wpList_load_row rfl 29 _ rfl _ rfl 29 _ (0, 0) _ (HA.out.row 2 rfl) Tryd.underlying29 rfl polC_size ?_)
              refine (HC.out _).mono ?_
              rintro e w1 ⟨rfl, hb1⟩
              have H1 := Lib.hid (HA.out.call hb1)
              obtain ⟨y10, y11, y12, y13⟩ := side_cells H1.out
              clear hb1
              go_wp2_with fail
              refine (HF1.out _).mono ?_
              rintro e w2 ⟨rfl, hb2⟩
              have H2 := Lib.hid (H1.out.call hb2)
              obtain ⟨y20, y21, y22, y23⟩ := side_cells H2.out
              clear hb2
              go_wp2_with fail
              refine (HU1.out _).mono ?_
              rintro e w3 ⟨rfl, hb3⟩
              have H3 := Lib.hid (H2.out.call hb3)
              obtain ⟨y30, y31, y32, y33⟩ := side_cells H3.out
              clear hb3
              go_wp2_with fail
              go_ret2
              rw [HRW.out]
              exact ⟨rfl, H3.out.below⟩
            | false =>
              go_enter Tryd.func8, Tryd.ntmps8
              go_wp2_with (refine wpList_load_row rfl 29 _ rfl _ rfl 29 _ (0, 0) _ (HA.out.row 2 rfl) Tryd.underlying29 rfl polC_size ?_)
              refine (HC.out _).mono ?_
              rintro e w1 ⟨rfl, hb1⟩
              have H1 := Lib.hid (HA.out.call hb1)
              obtain ⟨y10, y11, y12, y13⟩ := side_cells H1.out
              clear hb1
              go_wp2_with fail
              refine (HF1.out _).mono ?_
              rintro e w2 ⟨rfl, hb2⟩
              have H2 := Lib.hid (H1.out.call hb2)
              obtain ⟨y20, y21, y22, y23⟩ := side_cells H2.out
              clear hb2
              go_wp2_with fail
              go_ret2
              rw [HRW.out]
              exact ⟨rfl, H2.out.below⟩
          · have hr := HRES.out
            rw [if_neg (show ¬ (2 : Int) = 1 by decide), if_pos (show (2 : Int) = 2 from rfl), HB.out.2.1] at hr
            have HRW := Lib.hid hr
            clear hr HRES HB
            cases b2 with
            | true =>
              go_enter Tryd.func8, Tryd.ntmps8
              go_wp2_with (refine wpList_load_row rfl 29 _ rfl _ rfl 29 _ (0, 0) _ (HA.out.row 2 rfl) Tryd.underlying29 rfl polC_size ?_)
              refine (HC.out _).mono ?_
              rintro e w1 ⟨rfl, hb1⟩
              have H1 := Lib.hid (HA.out.call hb1)
              obtain ⟨y10, y11, y12, y13⟩ := side_cells H1.out
              clear hb1
              go_wp2_with fail
              refine (HF2.out _).mono ?_
              rintro e w2 ⟨rfl, hb2⟩
              have H2 := Lib.hid (H1.out.call hb2)
              obtain ⟨y20, y21, y22, y23⟩ := side_cells H2.out
              clear hb2
              go_wp2_with fail
              refine (HU2.out _).mono ?_
              rintro e w3 ⟨rfl, hb3⟩
              have H3 := Lib.hid (H2.out.call hb3)
              obtain ⟨y30, y31, y32, y33⟩ := side_cells H3.out
              clear hb3
              go_wp2_with fail
              refine (HO.out _).mono ?_
              rintro e w8 ⟨rfl, rfl⟩
              go_wp2_with fail
              go_ret2
              rw [HRW.out]
              exact ⟨rfl, H3.out.below⟩
            | false =>
              go_enter Tryd.func8, Tryd.ntmps8
              go_wp2_with (refine wpList_load_row rfl 29 _ rfl _ rfl 29 _ (0, 0) _ (HA.out.row 2 rfl) Tryd.underlying29 rfl polC_size ?_)
              refine (HC.out _).mono ?_
              rintro e w1 ⟨rfl, hb1⟩
              have H1 := Lib.hid (HA.out.call hb1)
              obtain ⟨y10, y11, y12, y13⟩ := side_cells H1.out
              clear hb1
              go_wp2_with fail
              refine (HF2.out _).mono ?_
              rintro e w2 ⟨rfl, hb2⟩
              have H2 := Lib.hid (H1.out.call hb2)
              obtain ⟨y20, y21, y22, y23⟩ := side_cells H2.out
              clear hb2
              go_wp2_with fail
              go_ret2
              rw [HRW.out]
              exact ⟨rfl, H2.out.below⟩
          · have hr := HRES.out
            rw [if_neg (show ¬ (3 : Int) = 1 by decide), if_neg (show ¬ (3 : Int) = 2 by decide), HB.out.2.2] at hr
            have HRW := Lib.hid hr
            clear hr HRES HB
            cases b1 with
            | true =>
              cases b2 with
              | true =>
                go_enter Tryd.func8, Tryd.ntmps8
                go_wp2_with (refine wpList_load_row rfl 29 _ rfl _ rfl 29 _ (0, 0) _ (HA.out.row 2 rfl) Tryd.underlying29 rfl polC_size ?_)
                refine (HC.out _).mono ?_
                rintro e w1 ⟨rfl, hb1⟩
                have H1 := Lib.hid (HA.out.call hb1)
                obtain ⟨y10, y11, y12, y13⟩ := side_cells H1.out
                clear hb1
                go_wp2_with fail
                refine (HF1.out _).mono ?_
                rintro e w2 ⟨rfl, hb2⟩
                have H2 := Lib.hid (H1.out.call hb2)
                obtain ⟨y20, y21, y22, y23⟩ := side_cells H2.out
                clear hb2
                go_wp2_with fail
                refine (HU1.out _).mono ?_
                rintro e w3 ⟨rfl, hb3⟩
                have H3 := Lib.hid (H2.out.call hb3)
                obtain ⟨y30, y31, y32, y33⟩ := side_cells H3.out
                clear hb3
                go_wp2_with fail
                refine (HF2.out _).mono ?_
                rintro e w4 ⟨rfl, hb4⟩
                have H4 := Lib.hid (H3.out.call hb4)
                obtain ⟨y40, y41, y42, y43⟩ := side_cells H4.out
                clear hb4
                go_wp2_with fail
                refine (HU2.out _).mono ?_
                rintro e w5 ⟨rfl, hb5⟩
                have H5 := Lib.hid (H4.out.call hb5)
                obtain ⟨y50, y51, y52, y53⟩ := side_cells H5.out
                clear hb5
                go_wp2_with fail
                refine (HO3.out _).mono ?_
                rintro e w8 ⟨rfl, rfl⟩
                go_wp2_with fail
                go_ret2
                rw [HRW.out]
                exact ⟨rfl, H5.out.below⟩
              | false =>
                go_enter Tryd.func8, Tryd.ntmps8
                go_wp2_with (refine wpList_load_row rfl 29 _ rfl _ rfl 29 _ (0, 0) _ (HA.out.row 2 rfl) Tryd.underlying29 rfl polC_size ?_)
                refine (HC.out _).mono ?_
                rintro e w1 ⟨rfl, hb1⟩
                have H1 := Lib.hid (HA.out.call hb1)
                obtain ⟨y10, y11, y12, y13⟩ := side_cells H1.out
                clear hb1
                go_wp2_with fail
                refine (HF1.out _).mono ?_
                rintro e w2 ⟨rfl, hb2⟩
                have H2 := Lib.hid (H1.out.call hb2)
                obtain ⟨y20, y21, y22, y23⟩ := side_cells H2.out
                clear hb2
                go_wp2_with fail
                refine (HU1.out _).mono ?_
                rintro e w3 ⟨rfl, hb3⟩
                have H3 := Lib.hid (H2.out.call hb3)
                obtain ⟨y30, y31, y32, y33⟩ := side_cells H3.out
                clear hb3
                go_wp2_with fail
                refine (HF2.out _).mono ?_
                rintro e w4 ⟨rfl, hb4⟩
                have H4 := Lib.hid (H3.out.call hb4)
                obtain ⟨y40, y41, y42, y43⟩ := side_cells H4.out
                clear hb4
                go_wp2_with fail
                go_ret2
                rw [HRW.out]
                exact ⟨rfl, H4.out.below⟩
            | false =>
              go_enter Tryd.func8, Tryd.ntmps8
              go_wp2_with (refine wpList_load_row rfl 29 _ rfl _ rfl 29 _ (0, 0) _ (HA.out.row 2 rfl) Tryd.underlying29 rfl polC_size ?_)
              refine (HC.out _).mono ?_
              rintro e w1 ⟨rfl, hb1⟩
              have H1 := Lib.hid (HA.out.call hb1)
              obtain ⟨y10, y11, y12, y13⟩ := side_cells H1.out
              clear hb1
              go_wp2_with fail
              refine (HF1.out _).mono ?_
              rintro e w2 ⟨rfl, hb2⟩
              have H2 := Lib.hid (H1.out.call hb2)
              obtain ⟨y20, y21, y22, y23⟩ := side_cells H2.out
              clear hb2
              go_wp2_with fail
              go_ret2
              rw [HRW.out, if_neg (by simp)]
              exact ⟨rfl, H2.out.below⟩
        · have e4 : (oT != xT) = true := by rw [bne_iff_ne]; exact c4
          have hres : mayF P r oS oI oT false xS xI xT false way = (0#16, 10) := by unfold mayF; rw [if_neg HN.out, if_neg HF.out, if_pos c4]
          have HR := Lib.hid hres
          clear hres c4 HF
          go_enter Tryd.func8, Tryd.ntmps8
          go_wp2_with fail
          go_ret2
          rw [HR.out]
          exact ⟨rfl, HA.out.below⟩
end Go.Proofs.YtohdldlagkmcnaaDoor.Mv
