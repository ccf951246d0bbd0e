/- Chapter 09: Clean; the reference's Same. -/
import Derived.Test.YtmlgkahadgpaiaaJoC
import Derived.Test.YtmlgkahadgpaiaaJoB
import Derived.Test.YtmlgkahadgpaiaaDkN
namespace Go.Proofs.Ytmlgkahadgpaiaa.Jo
open Go.RowKit _root_.Go.Proofs.Ytmlgkahadgpaiaa.Own
open Go.Proofs.Ytmlgkahadgpaiaa.Fr
open Go.Proofs.Ytmlgkahadgpaiaa.Dk (D Is D0 torn putRow rowB wst DOk rowB_length made_all)
open Go.Proofs.Ytmlgkahadgpaiaa.Va (rd_row rd_keep)
set_option linter.unusedVariables false
set_option linter.unusedSimpArgs false
def zero128 : List UInt8 := List.replicate 128 0
theorem zero128_length : zero128.length = 128 := List.length_replicate
/-- Clean, write by write. -/
def clN (d : D) (f N : Nat) : Nat → Int × D
  | 0 => (0, d)
  | i + 1 => if (clN d f N i).1 = 0 then wst (clN d f N i).2 (f + 2 * N + i) zero128 else clN d f N i
theorem clN_ok {d : D} {k : Nat} (h : DOk d k) (f N i : Nat) : DOk (clN d f N i).2 (k + i) := by
  induction i with
  | zero => exact h
  | succ i ih =>
    unfold clN
    split
    · exact ih.wst _ _
    · exact ih.mono (by omega)
theorem clN_stuck {d : D} {f N i : Nat} (h : (clN d f N i).1 ≠ 0) (x : Nat) : clN d f N (i + x) = clN d f N i := by
  induction x with
  | zero => rfl
  | succ x ih =>
    show (if (clN d f N (i + x)).1 = 0 then _ else _) = _
    rw [ih, if_neg h]
    exact ih
set_option maxRecDepth 10000 in
set_option maxHeartbeats 4000000 in
theorem CleanFull_calls {j g f m G : Nat} {w : World} (h : JIs j g f m G m w) :
    Calls Try.prog 24 #[.pointer (some ⟨j, 0, none⟩)] w fun e w' => e = .returned (.int .i64 0) ∧ Below w.heap.size w w' := by
  have HOK := Lib.hid (ok_calls h)
  have H := Lib.hid h
  obtain ⟨J, hJ⟩ : ∃ J : World → Prop, ∀ W, J W ↔ Below w.heap.size w W := ⟨_, fun _ => Iff.rfl⟩
  have K := fun W hW => (H.out.below ((hJ W).1 hW)).cells
  have HJ := Lib.hid hJ
  have hj := (HJ.out w.drew).2 ((Below.refl _ _).drew)
  clear h hJ
  go_enter Try.func24, Try.ntmps24
  go_wp2_with fail
  refine HOK.out.mono ?_
  rintro e w1 ⟨rfl, rfl⟩
  go_wp2_with fail
  refine region_inv J (by kernel_rfl) (by kernel_rfl) hj ?_
  repeat (first | (apply inv_yes; (· go_simp); (· intro w1 h1; obtain ⟨z0, z1, z2, z3, z4⟩ := K w1 h1; go_simp; exact ⟨rfl, h1⟩); (· go_simp; rfl)) | (apply inv_no; (· go_simp); (· go_simp; rfl)))
  refine wpInv_nil (fun w5 h5 => ?_)
  have H5 := Lib.hid ((HJ.out _).1 h5)
  clear K h5 hj HJ
  go_wp2_with fail
  go_ret
  exact ⟨rfl, H5.out⟩
set_option maxRecDepth 10000 in
set_option maxHeartbeats 8000000 in
theorem Clean_calls {w0 : World} {j g r n f m : Nat} {d : D} {G N : Nat} {w : World} (p : JS w0 j g r n f m d G N w) (hN : N < m) (hf : f + 2 * m ≤ n) (hn : n ≤ 1024) (hm : m ≤ 64) {k : Nat} (hk : DOk d k) (hk1 : k ≤ 500000) :
    Calls Try.prog 24 #[.pointer (some ⟨j, 0, none⟩)] w fun e w' => e = .returned (.int .i64 (clN d f N 2).1) ∧ JS w0 j g r n f m (clN d f N 2).2 G N w' := by
  have HOK := Lib.hid (ok_calls p.jis)
  have HP := Lib.hid p
  have HDk := Lib.hid (And.intro hk hk1)
  have HF := Lib.hid (And.intro hN (And.intro hf (And.intro hn hm)))
  have e0 : ((N : Int) == (m : Int)) = false := by rw [beq_eq_false_iff_ne]; omega
  have e1 : decide (N = m) = false := decide_eq_false (by omega)
  obtain ⟨J, hJ⟩ : ∃ J : World → Prop, ∀ W, J W ↔ JIs j g f m G N W := ⟨_, fun _ => Iff.rfl⟩
  have K := fun W hW => ((hJ W).1 hW : JIs j g f m G N W).cells
  have HJ := Lib.hid hJ
  obtain ⟨J0, hJ0⟩ : ∃ J : World → Prop, ∀ W, J W ↔ Below w.heap.size w W := ⟨_, fun _ => Iff.rfl⟩
  have K0 := fun W hW => (HP.out.jis.below ((hJ0 W).1 hW)).cells
  have HJ0 := Lib.hid hJ0
  have hj := (HJ0.out w.drew).2 ((Below.refl _ _).drew)
  clear p hk hk1 hN hf hn hm hJ hJ0
  go_enter Try.func24, Try.ntmps24
  go_wp2_with fail
  refine HOK.out.mono ?_
  rintro e w1 ⟨rfl, rfl⟩
  go_wp2_with fail
  refine region_inv J0 (by kernel_rfl) (by kernel_rfl) hj ?_
  repeat (first | (apply inv_yes; (· go_simp); (· intro w1 h1; obtain ⟨z0, z1, z2, z3, z4⟩ := K0 w1 h1; go_simp; exact ⟨rfl, h1⟩); (· go_simp; rfl)) | (apply inv_no; (· go_simp); (· go_simp; rfl)))
  refine wpInv_nil (fun w5 h5 => ?_)
  have HP5 := Lib.hid (HP.out.call ((HJ0.out _).1 h5))
  have HSz := Lib.hid ((HJ0.out _).1 h5).size
  clear K0 h5 hj HJ0
  go_wp2_with fail
  have hj5 := (HJ.out w5.drew).2 HP5.out.jis.drew
  refine Turn.region_seq [0, 1, 2, 3, 4, 6, 7, 8, 9, 10, 14, 5, 11, 12, 13] (fun i => i == 5 || i == 11 || i == 12) J (by kernel_rfl) (by kernel_rfl) hj5 ?_
  have HP6 := Lib.hid (HP5.out.call ((Below.refl _ _).drew))
  have HRec := Lib.hid (record_calls HP6.out.jis N (by have := HF.out; omega))
  have HCom := Lib.hid (commit_calls HP6.out.jis N (by have := HF.out; omega))
  clear hj5
  repeat (first | (apply Turn.seq_yes; (· simp only [List.getElem?_toArray, List.getElem?_cons_succ, List.getElem?_cons_zero]; rfl); (· rfl); (· go_simp); (· intro w1 h1; obtain ⟨z0, z1, z2, z3, z4⟩ := K w1 h1; go_simp; exact ⟨rfl, h1⟩); (· go_simp; rfl)) | (apply Turn.seq_no; (· simp only [List.getElem?_toArray, List.getElem?_cons_succ, List.getElem?_cons_zero]; rfl); (· go_simp); (· go_simp; rfl)))
  apply Turn.seq_call
  · simp only [List.getElem?_toArray, List.getElem?_cons_succ, List.getElem?_cons_zero]; rfl
  · rfl
  · go_simp
  · intro v; go_simp; rfl
  go_simp
  refine HRec.out.mono ?_
  rintro e w7 ⟨rfl, rfl⟩
  have hj7 := (HJ.out _).2 HP6.out.jis
  refine ⟨_, rfl, hj7, ?_⟩
  repeat (first | (apply Turn.seq_yes; (· simp only [List.getElem?_toArray, List.getElem?_cons_succ, List.getElem?_cons_zero]; rfl); (· rfl); (· go_simp); (· intro w1 h1; obtain ⟨z0, z1, z2, z3, z4⟩ := K w1 h1; go_simp; exact ⟨rfl, h1⟩); (· go_simp; rfl)) | (apply Turn.seq_no; (· simp only [List.getElem?_toArray, List.getElem?_cons_succ, List.getElem?_cons_zero]; rfl); (· go_simp); (· go_simp; rfl)))
  apply Turn.seq_call
  · simp only [List.getElem?_toArray, List.getElem?_cons_succ, List.getElem?_cons_zero]; rfl
  · rfl
  · go_simp
  · intro v; go_simp; rfl
  go_simp
  refine HCom.out.mono ?_
  rintro e w7 ⟨rfl, rfl⟩
  refine ⟨_, rfl, hj7, ?_⟩
  repeat (first | (apply Turn.seq_yes; (· simp only [List.getElem?_toArray, List.getElem?_cons_succ, List.getElem?_cons_zero]; rfl); (· rfl); (· go_simp); (· intro w1 h1; obtain ⟨z0, z1, z2, z3, z4⟩ := K w1 h1; go_simp; exact ⟨rfl, h1⟩); (· go_simp; rfl)) | (apply Turn.seq_no; (· simp only [List.getElem?_toArray, List.getElem?_cons_succ, List.getElem?_cons_zero]; rfl); (· go_simp); (· go_simp; rfl)))
  apply Turn.seq_call
  · simp only [List.getElem?_toArray, List.getElem?_cons_succ, List.getElem?_cons_zero]; rfl
  · rfl
  · go_simp
  · intro v; go_simp; rfl
  go_simp
  have hb8 := ((Below.refl w5.heap.size w5).alloc (Nat.le_refl _) (.cells #[.int .i64 ((f : Int) + 2 * N), .int .i64 ((f : Int) + 2 * N + 1)] 3)).drew
  have hj8 := (HJ.out _).2 (HP5.out.jis.below hb8)
  refine ⟨hj8, ?_⟩
  repeat (first | (apply Turn.seq_yes; (· simp only [List.getElem?_toArray, List.getElem?_cons_succ, List.getElem?_cons_zero]; rfl); (· rfl); (· go_simp); (· intro w1 h1; obtain ⟨z0, z1, z2, z3, z4⟩ := K w1 h1; go_simp; exact ⟨rfl, h1⟩); (· go_simp; rfl)) | (apply Turn.seq_no; (· simp only [List.getElem?_toArray, List.getElem?_cons_succ, List.getElem?_cons_zero]; rfl); (· go_simp); (· go_simp; rfl)))
  apply Turn.seq_nil
  have HP8 := Lib.hid (HP5.out.call hb8)
  have HB8 := Lib.hid (heap_alloc_new w5 (.cells #[.int .i64 ((f : Int) + 2 * N), .int .i64 ((f : Int) + 2 * N + 1)] 3))
  have HG8 := Lib.hid (And.intro HP5.out.only.size HP5.out.old)
  obtain ⟨B, hB⟩ : ∃ B, w5.heap.size = B := ⟨_, rfl⟩
  rw [hB] at HB8 HG8
  clear hj7 hj8 HRec HCom HP6 hb8 HSz
  go_wp2_with fail
  rw [hB]
  clear HP5
  have HS0 := Lib.hid (show (clN d f N 0).1 = 0 from rfl)
  obtain ⟨ti, i1, i2, i3, i4⟩ := Va.infoU8
  have hxs : madeCells (Value.int .u8 0).cells (128 * ti.size) = ⟨bys zero128⟩ := by
    rw [i2, Nat.mul_one]
    refine (made_all (.int .u8 0) 1 128 (by decide)).trans ?_
    simp [bys, nB, zero128]
  obtain ⟨Z, hZ⟩ : ∃ Z, bys zero128 = Z := ⟨_, rfl⟩
  rw [hZ] at hxs
  have HXS := Lib.hid hxs
  have HZ := Lib.hid hZ
  have mk := fun W : World => run_make (P := Try.prog) (w := W) 23 5 ti (.int .u8 0) Try.underlying23 i1 i4 .i64 .i64 128 128 (by decide) (by decide) (by rw [i3]; decide) (by decide)
  rw [show (128 : Int).toNat = 128 from rfl, HXS.out] at mk
  clear hxs hZ i1 i2 i3 i4 HXS hB
  go_loopw [32] (fun v32 wr => ∃ i : Nat, i ≤ 2 ∧ v32 = .int .i64 i ∧ Hid ((clN d f N i).1 = 0) ∧ Hid (JS w0 j g r n f m (clN d f N i).2 G N wr) ∧ Hid (wr.heap[B]? = some (.cells #[.int .i64 ((f : Int) + 2 * N), .int .i64 ((f : Int) + 2 * N + 1)] 3 (0, 0)))) (fun v32 _ => 2 - (intOf v32).toNat)
  case atStart => exact ⟨0, Nat.zero_le _, rfl, HS0, HP8, HB8⟩
  case round =>
    clear HP HP8 HB8 HS0
    obtain ⟨i, hi, rfl, HS, HP, HB⟩ := hrel
    by_cases hlt : i < 2
    · have hd : decide ((i : Int) < 2) = true := by rw [decide_eq_true_eq]; omega
      have hd2 : decide (i < 2) = true := by rw [decide_eq_true_eq]; omega
      have f1 : (i : Int) < 2 ∧ 0 ≤ (i : Int) := by omega
      have hcB : wr.cell? ⟨B, i, none⟩ = some (.int .i64 ((f : Int) + 2 * N + i)) := by
        rw [cell_of_row wr B i _ _ _ HB.out]
        obtain rfl | rfl : i = 0 ∨ i = 1 := by omega
        · simp
        · simp
      go_wp2_with fail
      have hj0 := (HJ.out wr.drew).2 HP.out.jis.drew
      have HP1 := Lib.hid (HP.out.call ((Below.refl _ _).drew))
      have HB1 := Lib.hid (show wr.drew.heap[B]? = _ from HB.out)
      clear HB hcB
      refine Turn.region_seq [0, 1, 2, 3, 4, 5, 6, 7] (fun i => i == 5 || i == 6) J (by kernel_rfl) (by kernel_rfl) hj0 ?_
      repeat (first | (apply Turn.seq_yes; (· simp only [List.getElem?_toArray, List.getElem?_cons_succ, List.getElem?_cons_zero]; rfl); (· rfl); (· go_simp); (· intro w1 h1; obtain ⟨z0, z1, z2, z3, z4⟩ := K w1 h1; go_simp; exact ⟨rfl, h1⟩); (· go_simp; rfl)) | (apply Turn.seq_no; (· simp only [List.getElem?_toArray, List.getElem?_cons_succ, List.getElem?_cons_zero]; rfl); (· go_simp); (· go_simp; rfl)))
      apply Turn.seq_call
      · simp only [List.getElem?_toArray, List.getElem?_cons_succ, List.getElem?_cons_zero]; rfl
      · rfl
      · go_simp
      · intro v; go_simp; rfl
      go_simp
      have hb4 := ((Below.refl wr.heap.size wr).alloc (Nat.le_refl _) (.cells ⟨Z⟩ 5)).drew
      have hj4 := (HJ.out _).2 (HP.out.jis.below hb4)
      have HP4 := Lib.hid (HP.out.call hb4)
      have HC4 := Lib.hid (rd_row (w := (wr.alloc (.cells ⟨Z⟩ 5)).drew) (k := wr.heap.size) (xs := zero128) (by rw [HZ.out]; exact heap_alloc_new wr _))
      have hBlt : B < wr.heap.size := by
        apply Classical.byContradiction
        intro hge
        have := HB1.out
        rw [Array.getElem?_eq_none (by have e : wr.drew.heap.size = wr.heap.size := rfl; omega)] at this
        cases this
      have HB4 := Lib.hid ((hb4.block B hBlt).trans HB1.out)
      have hne4 : wr.heap.size ≠ g ∧ B ≠ g ∧ B ≠ r := by have q1 := HP.out.only.size; have q2 := HP.out.old; have q3 := HG8.out; omega
      clear hb4 HP HP1 HB1
      refine ⟨hj4, ?_⟩
      repeat (first | (apply Turn.seq_yes; (· simp only [List.getElem?_toArray, List.getElem?_cons_succ, List.getElem?_cons_zero]; rfl); (· rfl); (· go_simp); (· intro w1 h1; obtain ⟨z0, z1, z2, z3, z4⟩ := K w1 h1; go_simp; exact ⟨rfl, h1⟩); (· go_simp; rfl)) | (apply Turn.seq_no; (· simp only [List.getElem?_toArray, List.getElem?_cons_succ, List.getElem?_cons_zero]; rfl); (· go_simp); (· go_simp; rfl)))
      apply Turn.seq_call
      · simp only [List.getElem?_toArray, List.getElem?_cons_succ, List.getElem?_cons_zero]; rfl
      · rfl
      · go_simp
      · intro v; go_simp; rfl
      go_simp
      have hW := Dk.Write_fun HP4.out.is (clN_ok HDk.out.1 f N i) (by have := HDk.out.2; omega) (f + 2 * N + i) (by have := HF.out; omega) (Nat.le_refl n) ⟨wr.heap.size, 0, none⟩ 128 zero128 zero128_length (Nat.le_refl _) HC4.out hne4.1
      have hnext : clN d f N (i + 1) = wst (clN d f N i).2 (f + 2 * N + i) zero128 := by
        show (if (clN d f N i).1 = 0 then _ else _) = _
        rw [if_pos HS.out]
      rw [← hnext] at hW
      refine hW.mono ?_
      rintro e w6 ⟨rfl, ho6, hi6⟩
      have HP6 := Lib.hid (HP4.out.turn ho6 hi6)
      have HB6 := Lib.hid ((ho6.keep B (by show B < (wr.alloc _).heap.size; rw [show (wr.alloc (.cells ⟨Z⟩ 5)).heap.size = wr.heap.size + 1 from Array.size_push ..]; omega) (by simp; exact hne4.2)).trans HB4.out)
      have hj6 := (HJ.out _).2 HP6.out.jis
      clear hW ho6 hi6 hj4 HC4 HP4 HB4
      refine ⟨_, rfl, hj6, ?_⟩
      repeat (first | (apply Turn.seq_yes; (· simp only [List.getElem?_toArray, List.getElem?_cons_succ, List.getElem?_cons_zero]; rfl); (· rfl); (· go_simp); (· intro w1 h1; obtain ⟨z0, z1, z2, z3, z4⟩ := K w1 h1; go_simp; exact ⟨rfl, h1⟩); (· go_simp; rfl)) | (apply Turn.seq_no; (· simp only [List.getElem?_toArray, List.getElem?_cons_succ, List.getElem?_cons_zero]; rfl); (· go_simp); (· go_simp; rfl)))
      apply Turn.seq_nil
      clear hj6
      by_cases hE : (clN d f N (i + 1)).1 = 0
      · have HE := Lib.hid hE
        rw [← hnext, hE]
        clear hE hnext
        have g9 : IntKind.i64.wrap ((i : Int) + 1) = ((i + 1 : Nat) : Int) := by rw [IntKind.wrap_i64]; omega
        go_wp2_with fail
        go_roundw
        case rel => exact ⟨i + 1, by omega, by simp, HE, HP6, HB6⟩
        case measure => simp [intOf]; omega
      · have hst := clN_stuck hE (2 - (i + 1))
        rw [show i + 1 + (2 - (i + 1)) = 2 by omega] at hst
        rw [← hnext]
        obtain ⟨E, hEq⟩ : ∃ E, (clN d f N (i + 1)).1 = E := ⟨_, rfl⟩
        obtain ⟨d', hdq⟩ : ∃ d', (clN d f N (i + 1)).2 = d' := ⟨_, rfl⟩
        have HE1 := Lib.hid (show (clN d f N 2).1 = E by rw [hst, hEq])
        have HE2 := Lib.hid (show (clN d f N 2).2 = d' by rw [hst, hdq])
        rw [hEq] at hE ⊢
        rw [hdq] at HP6
        have hE9 : (E != 0) = true := by rw [bne_iff_ne]; exact hE
        have hE8 : (E == 0) = false := by rw [beq_eq_false_iff_ne]; exact hE
        clear hst hEq hdq hnext hE
        go_wp2_with fail
        go_ret
        rw [HE1.out, HE2.out]
        exact ⟨rfl, HP6.out⟩
    · have hd : decide ((i : Int) < 2) = false := by rw [decide_eq_false_iff_not]; omega
      have hd2 : decide (i < 2) = false := by rw [decide_eq_false_iff_not]; omega
      obtain rfl : i = 2 := by omega
      go_wp2_with fail
      go_ret
      exact ⟨by rw [HS.out]; rfl, HP.out⟩
end Go.Proofs.Ytmlgkahadgpaiaa.Jo
