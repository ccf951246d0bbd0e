/- Chapter 30: move.May. -/
import Derived.Test.YtohdldlagkmcnaaDoorMvB
namespace Go.Proofs.YtohdldlagkmcnaaDoor.Mv
set_option linter.unusedSimpArgs false
set_option linter.unusedVariables false
open Go.RowKit
open _root_.Go.Proofs.YtohdldlagkmcnaaDoor.Own
open Go.Proofs.YtohdldlagkmcnaaDoor.Pl
attribute [local go_sem] b16_and b16_or b16_andNot
def flowsL (way : Int) (oS oI xS xI : BitVec 16) : List Fl :=
  if way = 1 then [⟨1, oS, oI, xS, xI⟩] else if way = 2 then [⟨2, xS, xI, oS, oI⟩] else [⟨2, xS, xI, oS, oI⟩, ⟨1, oS, oI, xS, xI⟩]
def usedW (way : Int) (oS oI xS xI : BitVec 16) : BitVec 16 :=
  if way = 1 then uB oS oI xS xI else if way = 2 then uB xS xI oS oI else uB xS xI oS oI ||| uB oS oI xS xI
theorem usedW_or {way : Int} (oS oI xS xI : BitVec 16) : orU (flowsL way oS oI xS xI) = usedW way oS oI xS xI := by
  unfold flowsL usedW
  split
  · simp [orU]
  · split <;> simp [orU]
theorem flowsL_length {way : Int} (hw : way = 1 ∨ way = 2 ∨ way = 3) (oS oI xS xI : BitVec 16) : (flowsL way oS oI xS xI).length = flowsN way := by
  rcases hw with rfl | rfl | rfl <;> rfl
theorem flows_at {base : Nat} {way : Int} (hw : way = 1 ∨ way = 2 ∨ way = 3) {oS oI xS xI : BitVec 16} {v : Value} {w : World} (h : HasN base 60 5 v (flowsN way) (flowsC way oS oI xS xI) w) : ∃ g c, v = .slice (some ⟨g, 0, none⟩) (flowsN way) c ∧ FlAt w g (flowsL way oS oI xS xI) ∧ base ≤ g := by
  obtain ⟨h1, ⟨rfl, h2⟩ | ⟨g, cap, cur, rfl, hb, hg, hn, hc, hs, ht⟩⟩ := h
  · unfold flowsN at h2; split at h2 <;> cases h2
  · refine ⟨g, cap, rfl, ?_, hb⟩
    have cell : ∀ i v, (flowsC way oS oI xS xI)[i]? = some v → w.cell? ⟨g, i, none⟩ = some v := by
      intro i v hv
      rw [cell_of_row w g i cur _ (0, 0) hg, ← Array.getElem?_toList]
      have hi := (List.getElem?_eq_some_iff.1 hv).1
      have h3 : (cur.toList.take (flowsN way * 5))[i]? = some v := by rw [ht]; exact hv
      rw [List.getElem?_take, if_pos (by omega)] at h3
      exact h3
    rcases hw with rfl | rfl | rfl
    · intro i hi
      obtain rfl : i = 0 := by simp [flowsL] at hi; exact hi
      exact ⟨cell 0 _ rfl, cell 1 _ rfl, cell 2 _ rfl, cell 3 _ rfl, cell 4 _ rfl⟩
    · intro i hi
      obtain rfl : i = 0 := by simp [flowsL] at hi; exact hi
      exact ⟨cell 0 _ rfl, cell 1 _ rfl, cell 2 _ rfl, cell 3 _ rfl, cell 4 _ rfl⟩
    · intro i hi
      have h2 : i = 0 ∨ i = 1 := by simp [flowsL] at hi; omega
      rcases h2 with rfl | rfl
      · exact ⟨cell 0 _ rfl, cell 1 _ rfl, cell 2 _ rfl, cell 3 _ rfl, cell 4 _ rfl⟩
      · exact ⟨cell 5 _ rfl, cell 6 _ rfl, cell 7 _ rfl, cell 8 _ rfl, cell 9 _ rfl⟩
/-- A side of a move, as a value. -/
abbrev sideV (S I : BitVec 16) (t : Int) (f : Bool) : Value := .agg #[.int .u16 (nH S), .int .u16 (nH I), .int .i64 t, .bool f]
/-- What is used, or why it may not move. -/
def mayF (P : Pol) (r : Int) (oS oI : BitVec 16) (oT : Int) (oF : Bool) (xS xI : BitVec 16) (xT : Int) (xF : Bool) (way : Int) : BitVec 16 × Int :=
  if way < 1 ∨ way > 3 then (0#16, 1) else if oF = true ∨ xF = true then (0#16, 11) else if oT ≠ xT then (0#16, 10)
  else if (usedW way oS oI xS xI &&& ~~~(capsF P r oS oI) == 0#16) = true then (usedW way oS oI xS xI, 0) else (0#16, 9)
def mayV (p : BitVec 16 × Int) : Value := .tuple #[.int .u16 (nH p.1), .int .i64 p.2]
abbrev ML (P : Pol) (w : World) (oS oI : BitVec 16) (oT : Int) (oF : Bool) (xS xI : BitVec 16) (xT : Int) (xF : Bool) : List (Nat × List Value × TypeId) :=
  [(w.heap.size + 1 + 1, [.int .u16 (nH xS), .int .u16 (nH xI), .int .i64 xT, .bool xF], 35), (w.heap.size + 1, [.int .u16 (nH oS), .int .u16 (nH oI), .int .i64 oT, .bool oF], 35), (w.heap.size, polC P, 29)]
set_option maxRecDepth 10000 in
set_option maxHeartbeats 8000000 in
theorem May_calls (P : Pol) (r : Int) (oS oI : BitVec 16) (oT : Int) (oF : Bool) (xS xI : BitVec 16) (xT : Int) (xF : Bool) (way : Int) (w : World) (hT : Table w) (hw1 : 1 ≤ w.heap.size) :
    Calls Tryd.prog 7 #[.agg ⟨polC P⟩, .int .i64 r, sideV oS oI oT oF, sideV xS xI xT xF, .int .i64 way] w fun e w' => e = .returned (mayV (mayF P r oS oI oT oF xS xI xT xF way)) ∧ Below w.heap.size w w' := by
  have hA := (((At.refl w).alloc (polC P) 29).alloc [.int .u16 (nH oS), .int .u16 (nH oI), .int .i64 oT, .bool oF] 35).alloc [.int .u16 (nH xS), .int .u16 (nH xI), .int .i64 xT, .bool xF] 35
  simp only [World.size_alloc] at hA
  have HA := Lib.hid hA
  have HT := Lib.hid (And.intro hT hw1)
  clear hA hT hw1
  by_cases c1 : way < 1
  · have hres : mayF P r oS oI oT oF xS xI xT xF way = (0#16, 1) := if_pos (.inl c1)
    have HR := Lib.hid hres
    have d1 := decide_eq_true c1
    clear c1 hres
    go_enter Tryd.func7, Tryd.ntmps7
    go_wp2_with fail
    go_ret2
    rw [HR.out]
    exact ⟨rfl, HA.out.below⟩
  · have d1 := decide_eq_false c1
    by_cases c2 : way > 3
    · have hres : mayF P r oS oI oT oF xS xI xT xF way = (0#16, 1) := if_pos (.inr c2)
      have HR := Lib.hid hres
      have d2 := decide_eq_true c2
      clear c1 c2 hres
      go_enter Tryd.func7, Tryd.ntmps7
      go_wp2_with fail
      go_ret2
      rw [HR.out]
      exact ⟨rfl, HA.out.below⟩
    · have d2 := decide_eq_false c2
      have HW := Lib.hid (show way = 1 ∨ way = 2 ∨ way = 3 by omega)
      have hn : ¬ (way < 1 ∨ way > 3) := by omega
      have HN := Lib.hid hn
      clear c1 c2 hn
      by_cases c3 : oF = true ∨ xF = true
      · have hres : mayF P r oS oI oT oF xS xI xT xF way = (0#16, 11) := by unfold mayF; rw [if_neg HN.out, if_pos c3]
        have HR := Lib.hid hres
        clear hres
        have c4 : oF = true ∨ (oF = false ∧ xF = true) := by cases oF with | true => exact .inl rfl | false => exact .inr ⟨rfl, by simpa using c3⟩
        clear c3
        rcases c4 with rfl | ⟨rfl, rfl⟩
        all_goals
          go_enter Tryd.func7, Tryd.ntmps7
          go_wp2_with fail
          go_ret2
          rw [HR.out]
          exact ⟨rfl, HA.out.below⟩
      · obtain ⟨rfl, rfl⟩ : oF = false ∧ xF = false := by simpa using c3
        have HF := Lib.hid c3
        clear c3
        by_cases c4 : oT = xT
        · have e4 : (oT != xT) = false := by rw [bne_eq_false_iff_eq]; exact c4
          have hres : mayF P r oS oI oT false xS xI xT false way = if (usedW way oS oI xS xI &&& ~~~(capsF P r oS oI) == 0#16) = true then (usedW way oS oI xS xI, 0) else (0#16, 9) := by unfold mayF; rw [if_neg HN.out, if_neg HF.out, if_neg (by simpa using c4)]
          have HR := Lib.hid hres
          clear hres c4 HF
          go_enter Tryd.func7, Tryd.ntmps7
          go_wp2_with fail
          refine (flows_calls way HW.out oS oI xS xI _).mono ?_
          rintro e w1 ⟨v1, rfl, ho1, hb1⟩
          have HA1 := Lib.hid (HA.out.call hb1)
          obtain ⟨g, c, rfl, hfl, -⟩ := flows_at HW.out ho1
          have HFL := Lib.hid hfl
          have HU := Lib.hid (used_calls g (flowsN way) c (flowsL way oS oI xS xI) (flowsL_length HW.out _ _ _ _) (by unfold flowsN; split <;> decide) w1 HFL.out)
          rw [usedW_or] at HU
          clear ho1 hb1 hfl
          go_wp2_with fail
          refine HU.out.mono ?_
          rintro e w2 ⟨rfl, hb2⟩
          have HA2 := Lib.hid (HA1.out.call hb2)
          have r0 : w2.cell? ⟨w.heap.size + 1, 0, none⟩ = some (.int .u16 (nH oS)) := (HA2.out.rules _ (List.mem_cons_of_mem _ (List.mem_cons_self ..))).1 0
          have r1 : w2.cell? ⟨w.heap.size + 1, 1, none⟩ = some (.int .u16 (nH oI)) := (HA2.out.rules _ (List.mem_cons_of_mem _ (List.mem_cons_self ..))).1 1
          have HC := Lib.hid (Caps_calls P r oS oI w2 (HT.out.1.below (HA2.out.below.mono HT.out.2)) (Nat.le_trans HT.out.2 HA2.out.below.size))
          clear hb2 HU HFL HA1
          go_wp2_with (refine wpList_load_row rfl 29 _ rfl _ rfl 29 _ (0, 0) _ (HA2.out.row 2 rfl) Tryd.underlying29 rfl polC_size ?_)
          refine HC.out.mono ?_
          rintro e w3 ⟨rfl, hb3⟩
          have HA3 := Lib.hid (HA2.out.call hb3)
          clear hb3 r0 r1 HC HA2
          generalize usedW way oS oI xS xI = U at *
          generalize capsF P r oS oI = C at *
          have hand := b16_andNot U C
          have hz := b16_zero (U &&& ~~~C)
          by_cases c5 : (U &&& ~~~C == 0#16) = true
          · rw [c5] at hz
            have hz' : (nH (U &&& ~~~C) != 0) = false := by simp [bne, hz]
            have HC5 := Lib.hid c5
            clear c5
            go_wp2_with fail
            go_ret2
            rw [HR.out, if_pos HC5.out]
            exact ⟨rfl, HA3.out.below⟩
          · have c6 : (U &&& ~~~C == 0#16) = false := by simpa using c5
            rw [c6] at hz
            have hz' : (nH (U &&& ~~~C) != 0) = true := by simp [bne, hz]
            have HC5 := Lib.hid c5
            clear c5 c6
            go_wp2_with fail
            go_ret2
            rw [HR.out, if_neg HC5.out]
            exact ⟨rfl, HA3.out.below⟩
        · have e4 : (oT != xT) = true := by rw [bne_iff_ne]; exact c4
          have hres : mayF P r oS oI oT false xS xI xT false way = (0#16, 10) := by unfold mayF; rw [if_neg HN.out, if_neg HF.out, if_pos c4]
          have HR := Lib.hid hres
          clear hres c4 HF
          go_enter Tryd.func7, Tryd.ntmps7
          go_wp2_with fail
          go_ret2
          rw [HR.out]
          exact ⟨rfl, HA.out.below⟩
end Go.Proofs.YtohdldlagkmcnaaDoor.Mv
