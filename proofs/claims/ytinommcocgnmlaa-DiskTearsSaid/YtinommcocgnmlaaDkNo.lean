/- Chapter 07: the walk of DiskNobody. -/
import Derived.Test.YtinommcocgnmlaaDkA
import Derived.Test.YtinommcocgnmlaaSeq
namespace Go.Proofs.Ytinommcocgnmlaa.Dk
open Go.RowKit _root_.Go.Proofs.Ytinommcocgnmlaa.Own
set_option linter.unusedVariables false
set_option linter.unusedSimpArgs false
theorem act_cells {w0 w : World} {g : Nat} {k i p c s : Value} {t : TypeId} (h : At w0 [(g, [k, i, p, c, s], t)] w) : w.cell? ⟨g, 0, none⟩ = some k ∧ w.cell? ⟨g, 1, none⟩ = some i ∧ w.cell? ⟨g, 2, none⟩ = some p ∧ w.cell? ⟨g, 3, none⟩ = some c ∧ w.cell? ⟨g, 4, none⟩ = some s := by
  have hR := (h.rules _ (List.mem_cons_self ..)).1
  exact ⟨hR 0, hR 1, hR 2, hR 3, hR 4⟩
set_option maxRecDepth 100000 in
set_option maxHeartbeats 8000000 in
theorem nobody_walk (k i p : Int) (b : UInt8) (s : Int) (hs : -128 ≤ s ∧ s ≤ 127) (w : World) : Calls Try.prog 11 #[actV k i p b s] w fun e w' => e = .returned (.bool true) ∧ Below w.heap.size w w' := by
  have H0 := (At.refl w).alloc [.int .u8 k, .int .i64 i, .int .i64 p, .int .u8 (nB b), .int .i8 s] 35
  unfold actV
  go_enter Try.func11, Try.ntmps11
  go_wp2_with fail
  refine callAt (nilRead_calls i _) H0 ?_
  rintro e w1 rfl H1
  clear H0
  go_wp2_with fail
  refine callAt (nilPower_calls _) H1 ?_
  rintro e w2 rfl H2
  clear H1
  go_wp2_with fail
  have H3 := H2.drew
  clear H2
  obtain ⟨J, hJ⟩ : ∃ J : World → Prop, ∀ W, J W ↔ At w [(w.heap.size, [.int .u8 k, .int .i64 i, .int .i64 p, .int .u8 (nB b), .int .i8 s], 35)] W := ⟨_, fun _ => Iff.rfl⟩
  have K := fun w1 h1 => act_cells ((hJ w1).1 h1)
  have HJ := Lib.hid hJ
  have hz0 : IntKind.i64.wrap 0 = 0 := by decide
  clear hJ
  refine region_seq [0, 1, 2, 3, 4, 5, 6, 7, 8, 9, 10, 11, 12, 13, 14, 15, 16, 17, 18, 19, 20, 21, 22, 23, 24, 25, 26, 27, 28, 29, 30, 31, 33, 32, 34, 35, 36, 37, 38, 39, 40, 41, 42, 43, 44, 45, 46] J (by kernel_rfl) (by kernel_rfl) ((HJ.out _).2 H3) ?_
  repeat (first | (apply seq_yes; (· simp only [List.getElem?_toArray, List.getElem?_cons_succ, List.getElem?_cons_zero]; rfl); (· rfl); (· go_simp); (· intro w1 h1; obtain ⟨y0, y1, y2, y3, y4⟩ := K w1 h1; go_simp; exact ⟨rfl, h1⟩); (· go_simp; rfl)) | (apply seq_no; (· simp only [List.getElem?_toArray, List.getElem?_cons_succ, List.getElem?_cons_zero]; rfl); (· go_simp); (· go_simp; rfl)))
  apply seq_call
  · simp only [List.getElem?_toArray, List.getElem?_cons_succ, List.getElem?_cons_zero]; rfl
  · rfl
  · go_simp
  · intro v; go_simp; rfl
  go_simp
  refine (Bytes_calls k i p b s hs _).mono ?_
  rintro e w3 ⟨v, rfl, hv, hb3⟩
  obtain ⟨A, c, rfl, -, -, -⟩ := Has.form hv
  have H4 := H3.call hb3
  clear hv hb3 H3
  refine ⟨_, rfl, (HJ.out _).2 H4, ?_⟩
  repeat (first | (apply seq_yes; (· simp only [List.getElem?_toArray, List.getElem?_cons_succ, List.getElem?_cons_zero]; rfl); (· rfl); (· go_simp); (· intro w1 h1; obtain ⟨y0, y1, y2, y3, y4⟩ := K w1 h1; go_simp; exact ⟨rfl, h1⟩); (· go_simp; rfl)) | (apply seq_no; (· simp only [List.getElem?_toArray, List.getElem?_cons_succ, List.getElem?_cons_zero]; rfl); (· go_simp); (· go_simp; rfl)))
  apply seq_call
  · simp only [List.getElem?_toArray, List.getElem?_cons_succ, List.getElem?_cons_zero]; rfl
  · rfl
  · go_simp
  · intro v; go_simp; rfl
  go_simp
  refine callAt (nilWrite_calls _ _ _ _ _) H4 ?_
  rintro e w4 rfl H5
  clear H4
  refine ⟨_, rfl, (HJ.out _).2 H5, ?_⟩
  repeat (first | (apply seq_yes; (· simp only [List.getElem?_toArray, List.getElem?_cons_succ, List.getElem?_cons_zero]; rfl); (· rfl); (· go_simp); (· intro w1 h1; obtain ⟨y0, y1, y2, y3, y4⟩ := K w1 h1; go_simp; exact ⟨rfl, h1⟩); (· go_simp; rfl)) | (apply seq_no; (· simp only [List.getElem?_toArray, List.getElem?_cons_succ, List.getElem?_cons_zero]; rfl); (· go_simp); (· go_simp; rfl)))
  apply seq_call
  · simp only [List.getElem?_toArray, List.getElem?_cons_succ, List.getElem?_cons_zero]; rfl
  · rfl
  · go_simp
  · intro v; go_simp; rfl
  go_simp
  refine callAt (nilArm_calls _ _ _) H5 ?_
  rintro e w5 rfl H6
  clear H5
  refine ⟨_, rfl, (HJ.out _).2 H6, ?_⟩
  repeat (first | (apply seq_yes; (· simp only [List.getElem?_toArray, List.getElem?_cons_succ, List.getElem?_cons_zero]; rfl); (· rfl); (· go_simp); (· intro w1 h1; obtain ⟨y0, y1, y2, y3, y4⟩ := K w1 h1; go_simp; exact ⟨rfl, h1⟩); (· go_simp; rfl)) | (apply seq_no; (· simp only [List.getElem?_toArray, List.getElem?_cons_succ, List.getElem?_cons_zero]; rfl); (· go_simp); (· go_simp; rfl)))
  apply seq_call
  · simp only [List.getElem?_toArray, List.getElem?_cons_succ, List.getElem?_cons_zero]; rfl
  · rfl
  · go_simp
  · intro v; go_simp; rfl
  go_simp
  refine callAt (nilOn_calls _) H6 ?_
  rintro e w6 rfl H7
  clear H6
  refine ⟨_, rfl, (HJ.out _).2 H7, ?_⟩
  repeat (first | (apply seq_yes; (· simp only [List.getElem?_toArray, List.getElem?_cons_succ, List.getElem?_cons_zero]; rfl); (· rfl); (· go_simp); (· intro w1 h1; obtain ⟨y0, y1, y2, y3, y4⟩ := K w1 h1; go_simp; exact ⟨rfl, h1⟩); (· go_simp; rfl)) | (apply seq_no; (· simp only [List.getElem?_toArray, List.getElem?_cons_succ, List.getElem?_cons_zero]; rfl); (· go_simp); (· go_simp; rfl)))
  apply seq_call
  · simp only [List.getElem?_toArray, List.getElem?_cons_succ, List.getElem?_cons_zero]; rfl
  · rfl
  · go_simp
  · intro v; go_simp; rfl
  go_simp
  refine callAt (nilLen_calls _) H7 ?_
  rintro e w7 rfl H8
  clear H7
  refine ⟨_, rfl, (HJ.out _).2 H8, ?_⟩
  repeat (first | (apply seq_yes; (· simp only [List.getElem?_toArray, List.getElem?_cons_succ, List.getElem?_cons_zero]; rfl); (· rfl); (· go_simp); (· intro w1 h1; obtain ⟨y0, y1, y2, y3, y4⟩ := K w1 h1; go_simp; exact ⟨rfl, h1⟩); (· go_simp; rfl)) | (apply seq_no; (· simp only [List.getElem?_toArray, List.getElem?_cons_succ, List.getElem?_cons_zero]; rfl); (· go_simp); (· go_simp; rfl)))
  apply seq_call
  · simp only [List.getElem?_toArray, List.getElem?_cons_succ, List.getElem?_cons_zero]; rfl
  · rfl
  · go_simp
  · intro v; go_simp; rfl
  go_simp
  refine callAt (nilWrites_calls _) H8 ?_
  rintro e w8 rfl H9
  clear H8
  refine ⟨_, rfl, (HJ.out _).2 H9, ?_⟩
  repeat (first | (apply seq_yes; (· simp only [List.getElem?_toArray, List.getElem?_cons_succ, List.getElem?_cons_zero]; rfl); (· rfl); (· go_simp); (· intro w1 h1; obtain ⟨y0, y1, y2, y3, y4⟩ := K w1 h1; go_simp; exact ⟨rfl, h1⟩); (· go_simp; rfl)) | (apply seq_no; (· simp only [List.getElem?_toArray, List.getElem?_cons_succ, List.getElem?_cons_zero]; rfl); (· go_simp); (· go_simp; rfl)))
  apply seq_call
  · simp only [List.getElem?_toArray, List.getElem?_cons_succ, List.getElem?_cons_zero]; rfl
  · rfl
  · go_simp
  · intro v; go_simp; rfl
  go_simp
  refine callAt (nilCopy_calls _) H9 ?_
  rintro e w9 rfl H10
  clear H9
  refine ⟨_, rfl, (HJ.out _).2 H10, ?_⟩
  repeat (first | (apply seq_yes; (· simp only [List.getElem?_toArray, List.getElem?_cons_succ, List.getElem?_cons_zero]; rfl); (· rfl); (· go_simp); (· intro w1 h1; obtain ⟨y0, y1, y2, y3, y4⟩ := K w1 h1; go_simp; exact ⟨rfl, h1⟩); (· go_simp; rfl)) | (apply seq_no; (· simp only [List.getElem?_toArray, List.getElem?_cons_succ, List.getElem?_cons_zero]; rfl); (· go_simp); (· go_simp; rfl)))
  apply seq_call
  · simp only [List.getElem?_toArray, List.getElem?_cons_succ, List.getElem?_cons_zero]; rfl
  · rfl
  · go_simp
  · intro v; go_simp; rfl
  go_simp
  refine callAt (alive07 _) H10 ?_
  rintro e w10 rfl H11
  clear H10
  refine ⟨_, rfl, (HJ.out _).2 H11, ?_⟩
  repeat (first | (apply seq_yes; (· simp only [List.getElem?_toArray, List.getElem?_cons_succ, List.getElem?_cons_zero]; rfl); (· rfl); (· go_simp); (· intro w1 h1; obtain ⟨y0, y1, y2, y3, y4⟩ := K w1 h1; go_simp; exact ⟨rfl, h1⟩); (· go_simp; rfl)) | (apply seq_no; (· simp only [List.getElem?_toArray, List.getElem?_cons_succ, List.getElem?_cons_zero]; rfl); (· go_simp); (· go_simp; rfl)))
  apply seq_nil
  go_wp2_with fail
  go_ret
  exact ⟨rfl, H11.below⟩
end Go.Proofs.Ytinommcocgnmlaa.Dk
