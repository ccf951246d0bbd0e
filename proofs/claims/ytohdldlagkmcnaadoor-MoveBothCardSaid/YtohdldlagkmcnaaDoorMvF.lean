/- Chapter 30: the reference's Event (printed by gen/mvf.py). -/
import Derived.Test.YtohdldlagkmcnaaDoorMvE
namespace Go.Proofs.YtohdldlagkmcnaaDoor.Mv
set_option linter.unusedSimpArgs false
set_option linter.unusedVariables false
open Go.RowKit
open _root_.Go.Proofs.YtohdldlagkmcnaaDoor.Own
open Go.Proofs.YtohdldlagkmcnaaDoor.Pl
attribute [local go_sem] b16_and b16_or b16_andNot
theorem sideR_cells {w V : World} {P : Pol} {oS oI : BitVec 16} {oT : Int} {oF : Bool} {xS xI : BitVec 16} {xT : Int} {xF : Bool} (h : At w (sideR w P oS oI oT oF xS xI xT xF) V) : V.cell? ⟨w.heap.size + 1, 0, none⟩ = some (.int .u16 (nH oS)) ∧ V.cell? ⟨w.heap.size + 1, 1, none⟩ = some (.int .u16 (nH oI)) ∧ V.cell? ⟨w.heap.size + 1, 2, none⟩ = some (.int .i64 oT) ∧ V.cell? ⟨w.heap.size + 1 + 1, 0, none⟩ = some (.int .u16 (nH xS)) ∧ V.cell? ⟨w.heap.size + 1 + 1, 1, none⟩ = some (.int .u16 (nH xI)) :=
  ⟨(h.rules _ (List.mem_cons_of_mem _ (List.mem_cons_self ..))).1 0, (h.rules _ (List.mem_cons_of_mem _ (List.mem_cons_self ..))).1 1, (h.rules _ (List.mem_cons_of_mem _ (List.mem_cons_self ..))).1 2, (h.rules _ (List.mem_cons_self ..)).1 0, (h.rules _ (List.mem_cons_self ..)).1 1⟩
set_option maxRecDepth 10000 in
set_option maxHeartbeats 8000000 in
theorem REvent_calls (P : Pol) (r : Int) (oS oI : BitVec 16) (oT : Int) (oF : Bool) (xS xI : BitVec 16) (xT : Int) (xF : Bool) (way : Int) (w : World) :
    Calls Tryd.prog 10 #[.agg ⟨polC P⟩, .int .i64 r, sideV oS oI oT oF, sideV xS xI xT xF, .int .i64 way] w fun e w' => ∃ v, e = .returned v ∧ HasN w.heap.size 50 10 v (evN (mayF P r oS oI oT oF xS xI xT xF way).2 way) (if (mayF P r oS oI oT oF xS xI xT xF way).2 = 0 then evs oT r oS oI (flowsL way oS oI xS xI) else []) w' ∧ Below w.heap.size w w' := by
  have hA := (((At.refl w).alloc (polC P) 29).alloc [.int .u16 (nH oS), .int .u16 (nH oI), .int .i64 oT, .bool oF] 31).alloc [.int .u16 (nH xS), .int .u16 (nH xI), .int .i64 xT, .bool xF] 31
  simp only [World.size_alloc] at hA
  have HA := Lib.hid (show At w (sideR w P oS oI oT oF xS xI xT xF) _ from hA)
  have HM := Lib.hid (RMay_calls P r oS oI oT oF xS xI xT xF way)
  have hU1 := RUsed_calls oS oI xS xI
  have hU2 := RUsed_calls xS xI oS oI
  change ∀ w, Calls _ _ _ _ fun e w' => e = .returned (.int .u16 (nH (uB oS oI xS xI))) ∧ _ at hU1
  change ∀ w, Calls _ _ _ _ fun e w' => e = .returned (.int .u16 (nH (uB xS xI oS oI))) ∧ _ at hU2
  have HU1 := Lib.hid hU1
  have HU2 := Lib.hid hU2
  have HV := Lib.hid (show (mayF P r oS oI oT oF xS xI xT xF way).2 = 0 → way = 1 ∨ way = 2 ∨ way = 3 from fun h => by
    unfold mayF at h
    split at h
    · cases h
    · omega)
  obtain ⟨p, hp⟩ : ∃ p, mayF P r oS oI oT oF xS xI xT xF way = p := ⟨_, rfl⟩
  rw [hp] at HM HV ⊢
  obtain ⟨u, e0⟩ := p
  simp only [mayV] at HM
  simp only at HV ⊢
  clear hA hp hU1 hU2
  by_cases hz : e0 = 0
  · subst hz
    have HRES := Lib.hid (show (0 : Int) = 0 from rfl)
    rcases HV.out rfl with rfl | rfl | rfl
    · have hr := HRES.out
      clear HRES
      have HW := Lib.hid (And.intro hr (And.intro (show evN 0 1 = 1 from rfl) (show flowsL 1 oS oI xS xI = [⟨1, oS, oI, xS, xI⟩] from rfl)))
      rw [HW.out.2.1, HW.out.2.2, if_pos rfl]
      clear hr HW
      go_enter Tryd.func10, Tryd.ntmps10
      go_wp2_with (refine wpList_load_row rfl 29 _ rfl _ rfl 29 _ (0, 0) _ (HA.out.row 2 rfl) Tryd.underlying29 rfl polC_size ?_)
      refine (HM.out _).mono ?_
      rintro e w1 ⟨rfl, hb1⟩
      have HA1 := Lib.hid (HA.out.call hb1)
      have HO1 := Lib.hid (HasN.nil w.heap.size 50 10 w1)
      obtain ⟨y0, y1, y2, y3, y4⟩ := sideR_cells HA1.out
      clear hb1 HA HM
      go_wp2_with fail
      clear y0 y1 y2 y3 y4
      obtain ⟨J, hJ⟩ : ∃ J : World → Prop, ∀ W, J W ↔ At w (sideR w P oS oI oT oF xS xI xT xF) W := ⟨_, fun _ => Iff.rfl⟩
      have K := fun w1 h1 => sideR_cells ((hJ w1).1 h1)
      have HJ := Lib.hid hJ
      have hj2a := (HJ.out _).2 (HA1.out.call ((Below.refl _ _).drew))
      have HOa2 := Lib.hid (HasN.below HO1.out ((Below.refl _ _).drew))
      clear hJ
      refine Turn.region_seq [0, 1, 2, 3, 4, 5, 6, 7, 8, 9, 10, 11, 12, 13, 14, 15, 16, 17, 18] (fun i => i == 14 || i == 16 || i == 17) J (by kernel_rfl) (by kernel_rfl) hj2a ?_
      repeat (first | (apply Turn.seq_yes; (· simp only [List.getElem?_toArray, List.getElem?_cons_succ, List.getElem?_cons_zero]; rfl); (· rfl); (· go_simp); (· intro w1 h1; obtain ⟨y0, y1, y2, y3, y4⟩ := K w1 h1; go_simp; exact ⟨rfl, h1⟩); (· go_simp; rfl)))
      apply Turn.seq_call
      · simp only [List.getElem?_toArray, List.getElem?_cons_succ, List.getElem?_cons_zero]; rfl
      · rfl
      · go_simp
      · intro v; go_simp; rfl
      go_simp
      refine (HU1.out _).mono ?_
      rintro e u2 ⟨rfl, hb2⟩
      have hj2b := (HJ.out _).2 (((HJ.out _).1 hj2a).call hb2)
      have HOb2 := Lib.hid (HasN.below HOa2.out hb2)
      clear hb2 hj2a HOa2 HO1 HA1
      refine ⟨_, rfl, hj2b, ?_⟩
      repeat (first | (apply Turn.seq_yes; (· simp only [List.getElem?_toArray, List.getElem?_cons_succ, List.getElem?_cons_zero]; rfl); (· rfl); (· go_simp); (· intro w1 h1; obtain ⟨y0, y1, y2, y3, y4⟩ := K w1 h1; go_simp; exact ⟨rfl, h1⟩); (· go_simp; rfl)))
      apply Turn.seq_call
      · simp only [List.getElem?_toArray, List.getElem?_cons_succ, List.getElem?_cons_zero]; rfl
      · rfl
      · go_simp
      · intro v; go_simp; rfl
      go_simp
      have HOc2 := Lib.hid (World.ownsRow.alloc HOb2.out (.cells ⟨(evC oT r oS oI ⟨1, oS, oI, xS, xI⟩)⟩ 50))
      have hj2c := (HJ.out (u2.alloc (.cells ⟨(evC oT r oS oI ⟨1, oS, oI, xS, xI⟩)⟩ 50))).2 (((HJ.out _).1 hj2b).call ((Below.refl _ _).alloc (Nat.le_refl _) _))
      refine ⟨hj2c, ?_⟩
      refine seq_appN ?opO1 ?ho1 (by rfl) ?hw1 ?opA1 ?ha1 ?opS1 ?opX1 40 ?hop1 w.heap.size 50 _ 10 40 Tryd.underlying40 infoEv rfl (by decide) (.slice none 0 0) 0 [] ?hs1 HOc2.out ⟨u2.heap.size, 0, none⟩ 1 1 (evC oT r oS oI ⟨1, oS, oI, xS, xI⟩) ?hx1 rfl ?hRd1 ?h11 ?hCap1 ?hCap21 ?hBase1 ?_
      case ho1 => simp only [List.getElem?_toArray, List.getElem?_cons_succ, List.getElem?_cons_zero]; rfl
      case hw1 => go_simp
      case ha1 => intro v; go_simp; rfl
      case hop1 => rfl
      case hs1 => go_simp
      case hx1 => go_simp
      case hRd1 => exact Rd.put _ (by simp) (evC oT r oS oI ⟨1, oS, oI, xS, xI⟩) _ _
      case h11 => exact evC_one _ _ _ _ _
      case hCap1 => simp [maxLen]
      case hCap21 => decide
      case hBase1 => exact ((HJ.out _).1 hj2c).below.size
      intro v2 w2 ho2 hg2
      have HO2 := Lib.hid ho2
      have hA2 := At.grownT ((HJ.out _).1 hj2c) HOc2.out (Nat.le_refl _) hg2 (by intro x hx; simp only [List.mem_cons, List.not_mem_nil, or_false] at hx; rcases hx with rfl | rfl | rfl <;> simp)
      have hj2d := (HJ.out w2).2 hA2
      have HA2 := Lib.hid hA2
      clear ho2 hg2 hA2 HOb2 HOc2 hj2b hj2c
      refine ⟨hj2d, ?_⟩
      repeat (first | (apply Turn.seq_yes; (· simp only [List.getElem?_toArray, List.getElem?_cons_succ, List.getElem?_cons_zero]; rfl); (· rfl); (· go_simp); (· intro w1 h1; obtain ⟨y0, y1, y2, y3, y4⟩ := K w1 h1; go_simp; exact ⟨rfl, h1⟩); (· go_simp; rfl)))
      apply Turn.seq_nil
      clear K HJ hj2d
      go_wp2_with fail
      go_ret
      exact ⟨_, rfl, HO2.out, HA2.out.below⟩
    · have hr := HRES.out
      clear HRES
      have HW := Lib.hid (And.intro hr (And.intro (show evN 0 2 = 1 from rfl) (show flowsL 2 oS oI xS xI = [⟨2, xS, xI, oS, oI⟩] from rfl)))
      rw [HW.out.2.1, HW.out.2.2, if_pos rfl]
      clear hr HW
      go_enter Tryd.func10, Tryd.ntmps10
      go_wp2_with (refine wpList_load_row rfl 29 _ rfl _ rfl 29 _ (0, 0) _ (HA.out.row 2 rfl) Tryd.underlying29 rfl polC_size ?_)
      refine (HM.out _).mono ?_
      rintro e w1 ⟨rfl, hb1⟩
      have HA1 := Lib.hid (HA.out.call hb1)
      have HO1 := Lib.hid (HasN.nil w.heap.size 50 10 w1)
      obtain ⟨y0, y1, y2, y3, y4⟩ := sideR_cells HA1.out
      clear hb1 HA HM
      go_wp2_with fail
      clear y0 y1 y2 y3 y4
      obtain ⟨J, hJ⟩ : ∃ J : World → Prop, ∀ W, J W ↔ At w (sideR w P oS oI oT oF xS xI xT xF) W := ⟨_, fun _ => Iff.rfl⟩
      have K := fun w1 h1 => sideR_cells ((hJ w1).1 h1)
      have HJ := Lib.hid hJ
      have hj2a := (HJ.out _).2 (HA1.out.call ((Below.refl _ _).drew))
      have HOa2 := Lib.hid (HasN.below HO1.out ((Below.refl _ _).drew))
      clear hJ
      refine Turn.region_seq [0, 1, 2, 3, 4, 5, 6, 7, 8, 9, 10, 11, 12, 13, 14, 15, 16, 17, 18] (fun i => i == 14 || i == 16 || i == 17) J (by kernel_rfl) (by kernel_rfl) hj2a ?_
      repeat (first | (apply Turn.seq_yes; (· simp only [List.getElem?_toArray, List.getElem?_cons_succ, List.getElem?_cons_zero]; rfl); (· rfl); (· go_simp); (· intro w1 h1; obtain ⟨y0, y1, y2, y3, y4⟩ := K w1 h1; go_simp; exact ⟨rfl, h1⟩); (· go_simp; rfl)))
      apply Turn.seq_call
      · simp only [List.getElem?_toArray, List.getElem?_cons_succ, List.getElem?_cons_zero]; rfl
      · rfl
      · go_simp
      · intro v; go_simp; rfl
      go_simp
      refine (HU2.out _).mono ?_
      rintro e u2 ⟨rfl, hb2⟩
      have hj2b := (HJ.out _).2 (((HJ.out _).1 hj2a).call hb2)
      have HOb2 := Lib.hid (HasN.below HOa2.out hb2)
      clear hb2 hj2a HOa2 HO1 HA1
      refine ⟨_, rfl, hj2b, ?_⟩
      repeat (first | (apply Turn.seq_yes; (· simp only [List.getElem?_toArray, List.getElem?_cons_succ, List.getElem?_cons_zero]; rfl); (· rfl); (· go_simp); (· intro w1 h1; obtain ⟨y0, y1, y2, y3, y4⟩ := K w1 h1; go_simp; exact ⟨rfl, h1⟩); (· go_simp; rfl)))
      apply Turn.seq_call
      · simp only [List.getElem?_toArray, List.getElem?_cons_succ, List.getElem?_cons_zero]; rfl
      · rfl
      · go_simp
      · intro v; go_simp; rfl
      go_simp
      have HOc2 := Lib.hid (World.ownsRow.alloc HOb2.out (.cells ⟨(evC oT r oS oI ⟨2, xS, xI, oS, oI⟩)⟩ 50))
      have hj2c := (HJ.out (u2.alloc (.cells ⟨(evC oT r oS oI ⟨2, xS, xI, oS, oI⟩)⟩ 50))).2 (((HJ.out _).1 hj2b).call ((Below.refl _ _).alloc (Nat.le_refl _) _))
      refine ⟨hj2c, ?_⟩
      refine seq_appN ?opO2 ?ho2 (by rfl) ?hw2 ?opA2 ?ha2 ?opS2 ?opX2 40 ?hop2 w.heap.size 50 _ 10 40 Tryd.underlying40 infoEv rfl (by decide) (.slice none 0 0) 0 [] ?hs2 HOc2.out ⟨u2.heap.size, 0, none⟩ 1 1 (evC oT r oS oI ⟨2, xS, xI, oS, oI⟩) ?hx2 rfl ?hRd2 ?h12 ?hCap2 ?hCap22 ?hBase2 ?_
      case ho2 => simp only [List.getElem?_toArray, List.getElem?_cons_succ, List.getElem?_cons_zero]; rfl
      case hw2 => go_simp
      case ha2 => intro v; go_simp; rfl
      case hop2 => rfl
      case hs2 => go_simp
      case hx2 => go_simp
      case hRd2 => exact Rd.put _ (by simp) (evC oT r oS oI ⟨2, xS, xI, oS, oI⟩) _ _
      case h12 => exact evC_one _ _ _ _ _
      case hCap2 => simp [maxLen]
      case hCap22 => decide
      case hBase2 => exact ((HJ.out _).1 hj2c).below.size
      intro v2 w2 ho2 hg2
      have HO2 := Lib.hid ho2
      have hA2 := At.grownT ((HJ.out _).1 hj2c) HOc2.out (Nat.le_refl _) hg2 (by intro x hx; simp only [List.mem_cons, List.not_mem_nil, or_false] at hx; rcases hx with rfl | rfl | rfl <;> simp)
      have hj2d := (HJ.out w2).2 hA2
      have HA2 := Lib.hid hA2
      clear ho2 hg2 hA2 HOb2 HOc2 hj2b hj2c
      refine ⟨hj2d, ?_⟩
      repeat (first | (apply Turn.seq_yes; (· simp only [List.getElem?_toArray, List.getElem?_cons_succ, List.getElem?_cons_zero]; rfl); (· rfl); (· go_simp); (· intro w1 h1; obtain ⟨y0, y1, y2, y3, y4⟩ := K w1 h1; go_simp; exact ⟨rfl, h1⟩); (· go_simp; rfl)))
      apply Turn.seq_nil
      clear K HJ hj2d
      go_wp2_with fail
      go_ret
      exact ⟨_, rfl, HO2.out, HA2.out.below⟩
    · have hr := HRES.out
      clear HRES
      have HW := Lib.hid (And.intro hr (And.intro (show evN 0 3 = 2 from rfl) (show flowsL 3 oS oI xS xI = [⟨2, xS, xI, oS, oI⟩, ⟨1, oS, oI, xS, xI⟩] from rfl)))
      rw [HW.out.2.1, HW.out.2.2, if_pos rfl]
      clear hr HW
      go_enter Tryd.func10, Tryd.ntmps10
      go_wp2_with (refine wpList_load_row rfl 29 _ rfl _ rfl 29 _ (0, 0) _ (HA.out.row 2 rfl) Tryd.underlying29 rfl polC_size ?_)
      refine (HM.out _).mono ?_
      rintro e w1 ⟨rfl, hb1⟩
      have HA1 := Lib.hid (HA.out.call hb1)
      have HO1 := Lib.hid (HasN.nil w.heap.size 50 10 w1)
      obtain ⟨y0, y1, y2, y3, y4⟩ := sideR_cells HA1.out
      clear hb1 HA HM
      go_wp2_with fail
      clear y0 y1 y2 y3 y4
      obtain ⟨J, hJ⟩ : ∃ J : World → Prop, ∀ W, J W ↔ At w (sideR w P oS oI oT oF xS xI xT xF) W := ⟨_, fun _ => Iff.rfl⟩
      have K := fun w1 h1 => sideR_cells ((hJ w1).1 h1)
      have HJ := Lib.hid hJ
      have hj2a := (HJ.out _).2 (HA1.out.call ((Below.refl _ _).drew))
      have HOa2 := Lib.hid (HasN.below HO1.out ((Below.refl _ _).drew))
      clear hJ
      refine Turn.region_seq [0, 1, 2, 3, 4, 5, 6, 7, 8, 9, 10, 11, 12, 13, 14, 15, 16, 17, 18] (fun i => i == 14 || i == 16 || i == 17) J (by kernel_rfl) (by kernel_rfl) hj2a ?_
      repeat (first | (apply Turn.seq_yes; (· simp only [List.getElem?_toArray, List.getElem?_cons_succ, List.getElem?_cons_zero]; rfl); (· rfl); (· go_simp); (· intro w1 h1; obtain ⟨y0, y1, y2, y3, y4⟩ := K w1 h1; go_simp; exact ⟨rfl, h1⟩); (· go_simp; rfl)))
      apply Turn.seq_call
      · simp only [List.getElem?_toArray, List.getElem?_cons_succ, List.getElem?_cons_zero]; rfl
      · rfl
      · go_simp
      · intro v; go_simp; rfl
      go_simp
      refine (HU2.out _).mono ?_
      rintro e u2 ⟨rfl, hb2⟩
      have hj2b := (HJ.out _).2 (((HJ.out _).1 hj2a).call hb2)
      have HOb2 := Lib.hid (HasN.below HOa2.out hb2)
      clear hb2 hj2a HOa2 HO1 HA1
      refine ⟨_, rfl, hj2b, ?_⟩
      repeat (first | (apply Turn.seq_yes; (· simp only [List.getElem?_toArray, List.getElem?_cons_succ, List.getElem?_cons_zero]; rfl); (· rfl); (· go_simp); (· intro w1 h1; obtain ⟨y0, y1, y2, y3, y4⟩ := K w1 h1; go_simp; exact ⟨rfl, h1⟩); (· go_simp; rfl)))
      apply Turn.seq_call
      · simp only [List.getElem?_toArray, List.getElem?_cons_succ, List.getElem?_cons_zero]; rfl
      · rfl
      · go_simp
      · intro v; go_simp; rfl
      go_simp
      have HOc2 := Lib.hid (World.ownsRow.alloc HOb2.out (.cells ⟨(evC oT r oS oI ⟨2, xS, xI, oS, oI⟩)⟩ 50))
      have hj2c := (HJ.out (u2.alloc (.cells ⟨(evC oT r oS oI ⟨2, xS, xI, oS, oI⟩)⟩ 50))).2 (((HJ.out _).1 hj2b).call ((Below.refl _ _).alloc (Nat.le_refl _) _))
      refine ⟨hj2c, ?_⟩
      refine seq_appN ?opO3 ?ho3 (by rfl) ?hw3 ?opA3 ?ha3 ?opS3 ?opX3 40 ?hop3 w.heap.size 50 _ 10 40 Tryd.underlying40 infoEv rfl (by decide) (.slice none 0 0) 0 [] ?hs3 HOc2.out ⟨u2.heap.size, 0, none⟩ 1 1 (evC oT r oS oI ⟨2, xS, xI, oS, oI⟩) ?hx3 rfl ?hRd3 ?h13 ?hCap3 ?hCap23 ?hBase3 ?_
      case ho3 => simp only [List.getElem?_toArray, List.getElem?_cons_succ, List.getElem?_cons_zero]; rfl
      case hw3 => go_simp
      case ha3 => intro v; go_simp; rfl
      case hop3 => rfl
      case hs3 => go_simp
      case hx3 => go_simp
      case hRd3 => exact Rd.put _ (by simp) (evC oT r oS oI ⟨2, xS, xI, oS, oI⟩) _ _
      case h13 => exact evC_one _ _ _ _ _
      case hCap3 => simp [maxLen]
      case hCap23 => decide
      case hBase3 => exact ((HJ.out _).1 hj2c).below.size
      intro v2 w2 ho2 hg2
      have HO2 := Lib.hid ho2
      have hA2 := At.grownT ((HJ.out _).1 hj2c) HOc2.out (Nat.le_refl _) hg2 (by intro x hx; simp only [List.mem_cons, List.not_mem_nil, or_false] at hx; rcases hx with rfl | rfl | rfl <;> simp)
      have hj2d := (HJ.out w2).2 hA2
      have HA2 := Lib.hid hA2
      clear ho2 hg2 hA2 HOb2 HOc2 hj2b hj2c
      refine ⟨hj2d, ?_⟩
      repeat (first | (apply Turn.seq_yes; (· simp only [List.getElem?_toArray, List.getElem?_cons_succ, List.getElem?_cons_zero]; rfl); (· rfl); (· go_simp); (· intro w1 h1; obtain ⟨y0, y1, y2, y3, y4⟩ := K w1 h1; go_simp; exact ⟨rfl, h1⟩); (· go_simp; rfl)))
      apply Turn.seq_nil
      clear K HJ hj2d
      go_wp2_with fail
      obtain ⟨J, hJ⟩ : ∃ J : World → Prop, ∀ W, J W ↔ At w (sideR w P oS oI oT oF xS xI xT xF) W := ⟨_, fun _ => Iff.rfl⟩
      have K := fun w1 h1 => sideR_cells ((hJ w1).1 h1)
      have HJ := Lib.hid hJ
      have hj3a := (HJ.out _).2 (HA2.out.call ((Below.refl _ _).drew))
      have HOa3 := Lib.hid (HasN.below HO2.out ((Below.refl _ _).drew))
      clear hJ
      refine Turn.region_seq [0, 1, 2, 3, 4, 5, 6, 7, 8, 9, 10, 11, 12, 13, 14, 15, 16, 17, 18] (fun i => i == 14 || i == 16 || i == 17) J (by kernel_rfl) (by kernel_rfl) hj3a ?_
      repeat (first | (apply Turn.seq_yes; (· simp only [List.getElem?_toArray, List.getElem?_cons_succ, List.getElem?_cons_zero]; rfl); (· rfl); (· go_simp); (· intro w1 h1; obtain ⟨y0, y1, y2, y3, y4⟩ := K w1 h1; go_simp; exact ⟨rfl, h1⟩); (· go_simp; rfl)))
      apply Turn.seq_call
      · simp only [List.getElem?_toArray, List.getElem?_cons_succ, List.getElem?_cons_zero]; rfl
      · rfl
      · go_simp
      · intro v; go_simp; rfl
      go_simp
      refine (HU1.out _).mono ?_
      rintro e u3 ⟨rfl, hb3⟩
      have hj3b := (HJ.out _).2 (((HJ.out _).1 hj3a).call hb3)
      have HOb3 := Lib.hid (HasN.below HOa3.out hb3)
      clear hb3 hj3a HOa3 HO2 HA2
      refine ⟨_, rfl, hj3b, ?_⟩
      repeat (first | (apply Turn.seq_yes; (· simp only [List.getElem?_toArray, List.getElem?_cons_succ, List.getElem?_cons_zero]; rfl); (· rfl); (· go_simp); (· intro w1 h1; obtain ⟨y0, y1, y2, y3, y4⟩ := K w1 h1; go_simp; exact ⟨rfl, h1⟩); (· go_simp; rfl)))
      apply Turn.seq_call
      · simp only [List.getElem?_toArray, List.getElem?_cons_succ, List.getElem?_cons_zero]; rfl
      · rfl
      · go_simp
      · intro v; go_simp; rfl
      go_simp
      have HOc3 := Lib.hid (World.ownsRow.alloc HOb3.out (.cells ⟨(evC oT r oS oI ⟨1, oS, oI, xS, xI⟩)⟩ 50))
      have hj3c := (HJ.out (u3.alloc (.cells ⟨(evC oT r oS oI ⟨1, oS, oI, xS, xI⟩)⟩ 50))).2 (((HJ.out _).1 hj3b).call ((Below.refl _ _).alloc (Nat.le_refl _) _))
      refine ⟨hj3c, ?_⟩
      refine seq_appN ?opO4 ?ho4 (by rfl) ?hw4 ?opA4 ?ha4 ?opS4 ?opX4 40 ?hop4 w.heap.size 50 _ 10 40 Tryd.underlying40 infoEv rfl (by decide) v2 1 (evC oT r oS oI ⟨2, xS, xI, oS, oI⟩) ?hs4 HOc3.out ⟨u3.heap.size, 0, none⟩ 1 1 (evC oT r oS oI ⟨1, oS, oI, xS, xI⟩) ?hx4 rfl ?hRd4 ?h14 ?hCap4 ?hCap24 ?hBase4 ?_
      case ho4 => simp only [List.getElem?_toArray, List.getElem?_cons_succ, List.getElem?_cons_zero]; rfl
      case hw4 => go_simp
      case ha4 => intro v; go_simp; rfl
      case hop4 => rfl
      case hs4 => go_simp
      case hx4 => go_simp
      case hRd4 => exact Rd.put _ (by simp) (evC oT r oS oI ⟨1, oS, oI, xS, xI⟩) _ _
      case h14 => exact evC_one _ _ _ _ _
      case hCap4 => simp [maxLen]
      case hCap24 => decide
      case hBase4 => exact ((HJ.out _).1 hj3c).below.size
      intro v3 w3 ho3 hg3
      have HO3 := Lib.hid ho3
      have hA3 := At.grownT ((HJ.out _).1 hj3c) HOc3.out (Nat.le_refl _) hg3 (by intro x hx; simp only [List.mem_cons, List.not_mem_nil, or_false] at hx; rcases hx with rfl | rfl | rfl <;> simp)
      have hj3d := (HJ.out w3).2 hA3
      have HA3 := Lib.hid hA3
      clear ho3 hg3 hA3 HOb3 HOc3 hj3b hj3c
      refine ⟨hj3d, ?_⟩
      repeat (first | (apply Turn.seq_yes; (· simp only [List.getElem?_toArray, List.getElem?_cons_succ, List.getElem?_cons_zero]; rfl); (· rfl); (· go_simp); (· intro w1 h1; obtain ⟨y0, y1, y2, y3, y4⟩ := K w1 h1; go_simp; exact ⟨rfl, h1⟩); (· go_simp; rfl)))
      apply Turn.seq_nil
      clear K HJ hj3d
      go_wp2_with fail
      go_ret
      exact ⟨_, rfl, HO3.out, HA3.out.below⟩
  · have HZ := Lib.hid hz
    have HEN := Lib.hid (show evN e0 way = 0 from if_neg hz)
    have d0 : (e0 != 0) = true := by rw [bne_iff_ne]; exact hz
    rw [HEN.out, if_neg hz]
    clear hz HEN HV
    go_enter Tryd.func10, Tryd.ntmps10
    go_wp2_with (refine wpList_load_row rfl 29 _ rfl _ rfl 29 _ (0, 0) _ (HA.out.row 2 rfl) Tryd.underlying29 rfl polC_size ?_)
    refine (HM.out _).mono ?_
    rintro e w1 ⟨rfl, hb1⟩
    have HA1 := Lib.hid (HA.out.call hb1)
    clear hb1 HA HM
    go_wp2_with fail
    go_ret
    exact ⟨_, rfl, HasN.nil _ _ _ _, HA1.out.below⟩
end Go.Proofs.YtohdldlagkmcnaaDoor.Mv
