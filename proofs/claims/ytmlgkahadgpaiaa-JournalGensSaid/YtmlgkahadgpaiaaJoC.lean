/- Chapter 09: Add. -/
import Derived.Test.YtmlgkahadgpaiaaJoA
import Derived.Test.YtmlgkahadgpaiaaDkX
import Derived.Test.YtmlgkahadgpaiaaTurn
namespace Go.Proofs.Ytmlgkahadgpaiaa.Jo
open Go.RowKit _root_.Go.Proofs.Ytmlgkahadgpaiaa.Own
open Go.Proofs.Ytmlgkahadgpaiaa.Fr
open Go.Proofs.Ytmlgkahadgpaiaa.Dk (D Is D0 torn putRow rowB wst DOk rowB_length)
open Go.Proofs.Ytmlgkahadgpaiaa.Va (rd_row rd_keep)
set_option linter.unusedVariables false
set_option linter.unusedSimpArgs false
/-- Add: how it comes out, the disk behind it, and how many are committed. -/
def addD (d : D) (f G N : Nat) (b : List UInt8) : Int × D × Nat :=
  if (wst d (f + 2 * N) (blockF 82 G N b)).1 = 0 then
    if (wst (wst d (f + 2 * N) (blockF 82 G N b)).2 (f + 2 * N + 1) (blockF 67 G N [])).1 = 0 then (0, (wst (wst d (f + 2 * N) (blockF 82 G N b)).2 (f + 2 * N + 1) (blockF 67 G N [])).2, N + 1)
    else ((wst (wst d (f + 2 * N) (blockF 82 G N b)).2 (f + 2 * N + 1) (blockF 67 G N [])).1, (wst (wst d (f + 2 * N) (blockF 82 G N b)).2 (f + 2 * N + 1) (blockF 67 G N [])).2, N)
  else ((wst d (f + 2 * N) (blockF 82 G N b)).1, (wst d (f + 2 * N) (blockF 82 G N b)).2, N)
theorem JIs.only {j g f m G N : Nat} {w w' : World} {bs : List Nat} (h : JIs j g f m G N w) (ho : Only bs w w') (hn : j ∉ bs) : JIs j g f m G N w' := (ho.keep j (blk_lt h) hn).trans h
theorem JIs.drew {j g f m G N : Nat} {w : World} (h : JIs j g f m G N w) : JIs j g f m G N w.drew := h.below (Below.refl _ _).drew
set_option maxRecDepth 10000 in
set_option maxHeartbeats 4000000 in
theorem AddFull_calls {j g f m G : Nat} {w : World} (h : JIs j g f m G m w) (b : Value) :
    Calls Try.prog 20 #[.pointer (some ⟨j, 0, none⟩), b] w fun e w' => e = .returned (.int .i64 12) ∧ Below w.heap.size w w' := by
  have HOK := Lib.hid (ok_calls h)
  have H := Lib.hid h
  obtain ⟨J, hJ⟩ : ∃ J : World → Prop, ∀ W, J W ↔ Below w.heap.size w W := ⟨_, fun _ => Iff.rfl⟩
  have K := fun W hW => (H.out.below ((hJ W).1 hW)).cells
  have HJ := Lib.hid hJ
  have hj := (HJ.out w.drew).2 ((Below.refl _ _).drew)
  clear h hJ
  go_enter Try.func20, Try.ntmps20
  go_wp2_with fail
  refine HOK.out.mono ?_
  rintro e w1 ⟨rfl, rfl⟩
  go_wp2_with fail
  refine region_inv J (by kernel_rfl) (by kernel_rfl) hj ?_
  repeat (first | (apply inv_yes; (· go_simp); (· intro w1 h1; obtain ⟨z0, z1, z2, z3, z4⟩ := K w1 h1; go_simp; exact ⟨rfl, h1⟩); (· go_simp; rfl)) | (apply inv_no; (· go_simp); (· go_simp; rfl)))
  refine wpInv_nil (fun w5 h5 => ?_)
  have H5 := Lib.hid ((HJ.out _).1 h5)
  clear K h5 hj HJ
  go_wp2_with fail
  go_ret
  exact ⟨rfl, H5.out⟩
set_option maxRecDepth 10000 in
set_option maxHeartbeats 8000000 in
theorem Add_calls {w0 : World} {j g r n f m : Nat} {d : D} {G N : Nat} {w : World} (p : JS w0 j g r n f m d G N w) (hN : N < m) (hf : f + 2 * m ≤ n) (hn : n ≤ 1024) (hm : m ≤ 64) {k : Nat} (hk : DOk d k) (hk1 : k ≤ 500000) (hG : G ≤ 2147483647) (A : Option Addr) (l c : Nat) (b : List UInt8) (hl : l = b.length) (hb : l ≤ 112) (hA : A = none → c = 0) (hR : Rd w A (bys b)) :
    Calls Try.prog 20 #[.pointer (some ⟨j, 0, none⟩), .slice A l c] w fun e w' => e = .returned (.int .i64 (addD d f G N b).1) ∧ JS w0 j g r n f m (addD d f G N b).2.1 G (addD d f G N b).2.2 w' := by
  have HOK := Lib.hid (ok_calls p.jis)
  have HP := Lib.hid p
  have HR := Lib.hid hR
  have HL := Lib.hid hl
  have HA := Lib.hid hA
  have HG := Lib.hid hG
  have HDk := Lib.hid (And.intro hk hk1)
  have HF := Lib.hid (And.intro hN (And.intro hf (And.intro hn hm)))
  have e0 : ((N : Int) == (m : Int)) = false := by rw [beq_eq_false_iff_ne]; omega
  have e1 : decide (N = m) = false := decide_eq_false (by omega)
  obtain ⟨J, hJ⟩ : ∃ J : World → Prop, ∀ W, J W ↔ JIs j g f m G N W := ⟨_, fun _ => Iff.rfl⟩
  have K := fun W hW => ((hJ W).1 hW : JIs j g f m G N W).cells
  have HJ := Lib.hid hJ
  obtain ⟨J0, hJ0⟩ : ∃ J : World → Prop, ∀ W, J W ↔ Below w.heap.size w W := ⟨_, fun _ => Iff.rfl⟩
  have K0 := fun W hW => (HP.out.jis.below ((hJ0 W).1 hW)).cells
  have HJ0 := Lib.hid hJ0
  have hj := (HJ0.out w.drew).2 ((Below.refl _ _).drew)
  clear p hR hl hA hG hk hk1 hN hf hn hm hJ hJ0
  go_enter Try.func20, Try.ntmps20
  go_wp2_with fail
  refine HOK.out.mono ?_
  rintro e w1 ⟨rfl, rfl⟩
  go_wp2_with fail
  refine region_inv J0 (by kernel_rfl) (by kernel_rfl) hj ?_
  repeat (first | (apply inv_yes; (· go_simp); (· intro w1 h1; obtain ⟨z0, z1, z2, z3, z4⟩ := K0 w1 h1; go_simp; exact ⟨rfl, h1⟩); (· go_simp; rfl)) | (apply inv_no; (· go_simp); (· go_simp; rfl)))
  refine wpInv_nil (fun w5 h5 => ?_)
  have HP5 := Lib.hid (HP.out.call ((HJ0.out _).1 h5))
  have HR5 := Lib.hid (HR.out.below ((HJ0.out _).1 h5))
  clear K0 h5 hj HJ0 HR HP
  go_wp2_with fail
  have hj5 := (HJ.out w5.drew).2 HP5.out.jis.drew
  refine Turn.region_seq [0, 1, 2, 3, 4, 5, 6, 7, 8, 9, 10, 11, 12, 13, 14] (fun i => i == 9) J (by kernel_rfl) (by kernel_rfl) hj5 ?_
  have HP6 := Lib.hid (HP5.out.call ((Below.refl _ _).drew))
  have HR6 := Lib.hid (HR5.out.below ((Below.refl _ _).drew))
  clear hj5 HP5 HR5
  repeat (first | (apply Turn.seq_yes; (· simp only [List.getElem?_toArray, List.getElem?_cons_succ, List.getElem?_cons_zero]; rfl); (· rfl); (· go_simp); (· intro w1 h1; obtain ⟨z0, z1, z2, z3, z4⟩ := K w1 h1; go_simp; exact ⟨rfl, h1⟩); (· go_simp; rfl)) | (apply Turn.seq_no; (· simp only [List.getElem?_toArray, List.getElem?_cons_succ, List.getElem?_cons_zero]; rfl); (· go_simp); (· go_simp; rfl)))
  apply Turn.seq_call
  · simp only [List.getElem?_toArray, List.getElem?_cons_succ, List.getElem?_cons_zero]; rfl
  · rfl
  · go_simp
  · intro v; go_simp; rfl
  go_simp
  have hWr := WriteOk_calls 82 G N HG.out (by have := HF.out; omega) A l c b HL.out hb HA.out w5.drew HR6.out
  rw [show nB 82 = 82 from rfl] at hWr
  refine hWr.mono ?_
  rintro e w7 ⟨v7, rfl, hv7, hb7⟩
  have HP7 := Lib.hid (HP6.out.call hb7)
  obtain ⟨g7, c7, rfl, hc7, -, hgb7, -, hr7⟩ := Fr.Has.row hv7 127 (read_of 82 G N b HG.out (by have := HF.out; omega) (by rw [← HL.out]; exact hb)).1
  have HR7 := Lib.hid (And.intro hc7 hr7)
  have hcc7 : 128 ≤ c7 := hc7
  have hne7 : g7 ≠ g ∧ g7 ≠ r := by have q1 := blk_lt HP6.out.is.own; have q2 := blk_lt HP6.out.is.row; omega
  have hj7 := (HJ.out _).2 HP7.out.jis
  clear hWr hv7 hb7 hc7 hr7 hgb7 HR6 HP6
  refine ⟨_, rfl, hj7, ?_⟩
  repeat (first | (apply Turn.seq_yes; (· simp only [List.getElem?_toArray, List.getElem?_cons_succ, List.getElem?_cons_zero]; rfl); (· rfl); (· go_simp); (· intro w1 h1; obtain ⟨z0, z1, z2, z3, z4⟩ := K w1 h1; go_simp; exact ⟨rfl, h1⟩); (· go_simp; rfl)) | (apply Turn.seq_no; (· simp only [List.getElem?_toArray, List.getElem?_cons_succ, List.getElem?_cons_zero]; rfl); (· go_simp); (· go_simp; rfl)))
  apply Turn.seq_nil
  clear hj7
  go_wp2_with fail
  have hj8 := (HJ.out w7.drew).2 HP7.out.jis.drew
  refine Turn.region_seq [0, 1, 2, 3, 4, 5, 6, 7, 8, 9, 10, 11, 12, 13] (fun i => i == 8) J (by kernel_rfl) (by kernel_rfl) hj8 ?_
  have HP8 := Lib.hid (HP7.out.call ((Below.refl _ _).drew))
  have HR8 := Lib.hid (HR7.out.2.below ((Below.refl _ _).drew))
  clear hj8 HP7
  repeat (first | (apply Turn.seq_yes; (· simp only [List.getElem?_toArray, List.getElem?_cons_succ, List.getElem?_cons_zero]; rfl); (· rfl); (· go_simp); (· intro w1 h1; obtain ⟨z0, z1, z2, z3, z4⟩ := K w1 h1; go_simp; exact ⟨rfl, h1⟩); (· go_simp; rfl)) | (apply Turn.seq_no; (· simp only [List.getElem?_toArray, List.getElem?_cons_succ, List.getElem?_cons_zero]; rfl); (· go_simp); (· go_simp; rfl)))
  apply Turn.seq_call
  · simp only [List.getElem?_toArray, List.getElem?_cons_succ, List.getElem?_cons_zero]; rfl
  · rfl
  · go_simp
  · intro v; go_simp; rfl
  go_simp
  have hWr := WriteOk_calls 67 G N HG.out (by have := HF.out; omega) none 0 0 [] rfl (by decide) (fun _ => rfl) w7.drew (Rd.nil _ _)
  rw [show nB 67 = 67 from rfl] at hWr
  refine hWr.mono ?_
  rintro e w9 ⟨v9, rfl, hv9, hb9⟩
  have HP9 := Lib.hid (HP8.out.call hb9)
  obtain ⟨g9, c9, rfl, hc9, -, hgb9, -, hr9⟩ := Fr.Has.row hv9 127 (read_of 67 G N [] HG.out (by have := HF.out; omega) (by decide)).1
  have HR9 := Lib.hid (And.intro hc9 hr9)
  have hcc9 : 128 ≤ c9 := hc9
  have HR9a := Lib.hid (HR8.out.below hb9)
  have hne9 : g9 ≠ g ∧ g9 ≠ r := by have q1 := blk_lt HP8.out.is.own; have q2 := blk_lt HP8.out.is.row; omega
  have hj9 := (HJ.out _).2 HP9.out.jis
  clear hWr hv9 hb9 hc9 hr9 hgb9 HR8 HP8
  refine ⟨_, rfl, hj9, ?_⟩
  repeat (first | (apply Turn.seq_yes; (· simp only [List.getElem?_toArray, List.getElem?_cons_succ, List.getElem?_cons_zero]; rfl); (· rfl); (· go_simp); (· intro w1 h1; obtain ⟨z0, z1, z2, z3, z4⟩ := K w1 h1; go_simp; exact ⟨rfl, h1⟩); (· go_simp; rfl)) | (apply Turn.seq_no; (· simp only [List.getElem?_toArray, List.getElem?_cons_succ, List.getElem?_cons_zero]; rfl); (· go_simp); (· go_simp; rfl)))
  apply Turn.seq_nil
  clear hj9
  have h128 : (blockF 82 G N b).length = 128 ∧ (blockF 67 G N []).length = 128 := ⟨(read_of 82 G N b HG.out (by have := HF.out; omega) (by rw [← HL.out]; exact hb)).1, (read_of 67 G N [] HG.out (by have := HF.out; omega) (by decide)).1⟩
  obtain ⟨RB, hRB⟩ : ∃ RB, blockF 82 G N b = RB := ⟨_, rfl⟩
  obtain ⟨CB, hCB⟩ : ∃ CB, blockF 67 G N [] = CB := ⟨_, rfl⟩
  rw [hRB] at HR9a h128
  rw [hCB] at HR9 h128
  have HBB := Lib.hid (And.intro hRB hCB)
  have H128 := Lib.hid h128
  clear h128 hRB hCB HR7
  go_wp2_with fail
  have hj10 := (HJ.out w9.drew).2 HP9.out.jis.drew
  refine Turn.region_seq [0, 1, 2, 3, 4, 5, 6, 7, 8, 10, 9, 11, 12] (fun i => i == 9 || i == 11) J (by kernel_rfl) (by kernel_rfl) hj10 ?_
  have HP10 := Lib.hid (HP9.out.call ((Below.refl _ _).drew))
  have HR10 := Lib.hid (HR9a.out.below ((Below.refl _ _).drew))
  have HC10 := Lib.hid (HR9.out.2.below ((Below.refl _ _).drew))
  have HRec := Lib.hid (record_calls HP10.out.jis N (by have := HF.out; omega))
  clear hj10 HP9 HR9a
  repeat (first | (apply Turn.seq_yes; (· simp only [List.getElem?_toArray, List.getElem?_cons_succ, List.getElem?_cons_zero]; rfl); (· rfl); (· go_simp); (· intro w1 h1; obtain ⟨z0, z1, z2, z3, z4⟩ := K w1 h1; go_simp; exact ⟨rfl, h1⟩); (· go_simp; rfl)) | (apply Turn.seq_no; (· simp only [List.getElem?_toArray, List.getElem?_cons_succ, List.getElem?_cons_zero]; rfl); (· go_simp); (· go_simp; rfl)))
  apply Turn.seq_call
  · simp only [List.getElem?_toArray, List.getElem?_cons_succ, List.getElem?_cons_zero]; rfl
  · rfl
  · go_simp
  · intro v; go_simp; rfl
  go_simp
  refine HRec.out.mono ?_
  rintro e w11 ⟨rfl, rfl⟩
  have hj11 := (HJ.out _).2 HP10.out.jis
  refine ⟨_, rfl, hj11, ?_⟩
  repeat (first | (apply Turn.seq_yes; (· simp only [List.getElem?_toArray, List.getElem?_cons_succ, List.getElem?_cons_zero]; rfl); (· rfl); (· go_simp); (· intro w1 h1; obtain ⟨z0, z1, z2, z3, z4⟩ := K w1 h1; go_simp; exact ⟨rfl, h1⟩); (· go_simp; rfl)) | (apply Turn.seq_no; (· simp only [List.getElem?_toArray, List.getElem?_cons_succ, List.getElem?_cons_zero]; rfl); (· go_simp); (· go_simp; rfl)))
  apply Turn.seq_call
  · simp only [List.getElem?_toArray, List.getElem?_cons_succ, List.getElem?_cons_zero]; rfl
  · rfl
  · go_simp
  · intro v; go_simp; rfl
  go_simp
  have hW := Dk.Write_fun HP10.out.is HDk.out.1 (by have := HDk.out.2; omega) (f + 2 * N) (by have := HF.out; omega) (Nat.le_refl n) ⟨g7, 0, none⟩ c7 RB H128.out.1 hcc7 HR10.out hne7.1
  refine hW.mono ?_
  rintro e w12 ⟨rfl, ho12, hi12⟩
  have HP12 := Lib.hid (HP10.out.turn ho12 hi12)
  have HC12 := Lib.hid (rd_keep HC10.out ho12 (by intro a ha; cases ha; simp; exact hne9))
  have hj12 := (HJ.out _).2 HP12.out.jis
  clear hW ho12 hi12 hj11 HRec HC10 HR10 HP10
  refine ⟨_, rfl, hj12, ?_⟩
  repeat (first | (apply Turn.seq_yes; (· simp only [List.getElem?_toArray, List.getElem?_cons_succ, List.getElem?_cons_zero]; rfl); (· rfl); (· go_simp); (· intro w1 h1; obtain ⟨z0, z1, z2, z3, z4⟩ := K w1 h1; go_simp; exact ⟨rfl, h1⟩); (· go_simp; rfl)) | (apply Turn.seq_no; (· simp only [List.getElem?_toArray, List.getElem?_cons_succ, List.getElem?_cons_zero]; rfl); (· go_simp); (· go_simp; rfl)))
  apply Turn.seq_nil
  clear hj12
  obtain ⟨E1, hE1⟩ : ∃ E, (wst d (f + 2 * N) RB).1 = E := ⟨_, rfl⟩
  obtain ⟨d1, hd1⟩ : ∃ d1, (wst d (f + 2 * N) RB).2 = d1 := ⟨_, rfl⟩
  have hdk1 : DOk d1 (k + 1) := by rw [← hd1]; exact HDk.out.1.wst _ _
  rw [hE1]
  rw [hd1] at HP12
  have HE1 := Lib.hid (And.intro hE1 hd1)
  have HDk1 := Lib.hid hdk1
  clear hE1 hd1 hdk1
  by_cases hz1 : E1 = 0
  · subst hz1
    go_wp2_with fail
    have hj13 := (HJ.out w12.drew).2 HP12.out.jis.drew
    refine Turn.region_seq [0, 1, 2, 3, 4, 5, 6, 7, 8, 10, 9, 11, 12] (fun i => i == 9 || i == 11) J (by kernel_rfl) (by kernel_rfl) hj13 ?_
    have HP13 := Lib.hid (HP12.out.call ((Below.refl _ _).drew))
    have HC13 := Lib.hid (HC12.out.below ((Below.refl _ _).drew))
    have HCom := Lib.hid (commit_calls HP13.out.jis N (by have := HF.out; omega))
    clear hj13 HP12 HC12
    repeat (first | (apply Turn.seq_yes; (· simp only [List.getElem?_toArray, List.getElem?_cons_succ, List.getElem?_cons_zero]; rfl); (· rfl); (· go_simp); (· intro w1 h1; obtain ⟨z0, z1, z2, z3, z4⟩ := K w1 h1; go_simp; exact ⟨rfl, h1⟩); (· go_simp; rfl)) | (apply Turn.seq_no; (· simp only [List.getElem?_toArray, List.getElem?_cons_succ, List.getElem?_cons_zero]; rfl); (· go_simp); (· go_simp; rfl)))
    apply Turn.seq_call
    · simp only [List.getElem?_toArray, List.getElem?_cons_succ, List.getElem?_cons_zero]; rfl
    · rfl
    · go_simp
    · intro v; go_simp; rfl
    go_simp
    refine HCom.out.mono ?_
    rintro e w14 ⟨rfl, rfl⟩
    have hj14 := (HJ.out _).2 HP13.out.jis
    refine ⟨_, rfl, hj14, ?_⟩
    repeat (first | (apply Turn.seq_yes; (· simp only [List.getElem?_toArray, List.getElem?_cons_succ, List.getElem?_cons_zero]; rfl); (· rfl); (· go_simp); (· intro w1 h1; obtain ⟨z0, z1, z2, z3, z4⟩ := K w1 h1; go_simp; exact ⟨rfl, h1⟩); (· go_simp; rfl)) | (apply Turn.seq_no; (· simp only [List.getElem?_toArray, List.getElem?_cons_succ, List.getElem?_cons_zero]; rfl); (· go_simp); (· go_simp; rfl)))
    apply Turn.seq_call
    · simp only [List.getElem?_toArray, List.getElem?_cons_succ, List.getElem?_cons_zero]; rfl
    · rfl
    · go_simp
    · intro v; go_simp; rfl
    go_simp
    have hW := Dk.Write_fun HP13.out.is HDk1.out (by have := HDk.out.2; omega) (f + 2 * N + 1) (by have := HF.out; omega) (Nat.le_refl n) ⟨g9, 0, none⟩ c9 CB H128.out.2 hcc9 HC13.out hne9.1
    refine hW.mono ?_
    rintro e w15 ⟨rfl, ho15, hi15⟩
    have HP15 := Lib.hid (HP13.out.turn ho15 hi15)
    have hj15 := (HJ.out _).2 HP15.out.jis
    clear hW ho15 hi15 hj14 HCom HC13 HP13
    refine ⟨_, rfl, hj15, ?_⟩
    repeat (first | (apply Turn.seq_yes; (· simp only [List.getElem?_toArray, List.getElem?_cons_succ, List.getElem?_cons_zero]; rfl); (· rfl); (· go_simp); (· intro w1 h1; obtain ⟨z0, z1, z2, z3, z4⟩ := K w1 h1; go_simp; exact ⟨rfl, h1⟩); (· go_simp; rfl)) | (apply Turn.seq_no; (· simp only [List.getElem?_toArray, List.getElem?_cons_succ, List.getElem?_cons_zero]; rfl); (· go_simp); (· go_simp; rfl)))
    apply Turn.seq_nil
    clear hj15 K HJ
    obtain ⟨E2, hE2⟩ : ∃ E, (wst d1 (f + 2 * N + 1) CB).1 = E := ⟨_, rfl⟩
    obtain ⟨d2, hd2⟩ : ∃ d2, (wst d1 (f + 2 * N + 1) CB).2 = d2 := ⟨_, rfl⟩
    rw [hE2]
    rw [hd2] at HP15
    have HE2 := Lib.hid (And.intro hE2 hd2)
    clear hE2 hd2
    by_cases hz2 : E2 = 0
    · subst hz2
      have hres : addD d f G N b = (0, d2, N + 1) := by
        unfold addD
        rw [HBB.out.1, HBB.out.2, HE1.out.1, HE1.out.2, HE2.out.1, HE2.out.2]; rfl
      have HRES := Lib.hid hres
      obtain ⟨y0, y1, y2, y3, y4⟩ := HP15.out.jis.cells
      have z4 := HP15.out.jis.free 4
      have f9 : IntKind.i64.wrap ((N : Int) + 1) = ((N + 1 : Nat) : Int) := by have := HF.out; rw [IntKind.wrap_i64]; omega
      have hset := HP15.out.setN (N + 1)
      have HSET := Lib.hid hset
      clear hres hset
      go_wp2_with fail
      go_ret
      rw [HRES.out]
      exact ⟨rfl, HSET.out⟩
    · have hres : addD d f G N b = (E2, d2, N) := by
        unfold addD
        rw [HBB.out.1, HBB.out.2, HE1.out.1, HE1.out.2, HE2.out.1, HE2.out.2, if_pos rfl, if_neg hz2]
      have HRES := Lib.hid hres
      have hE3 : (E2 == 0) = false := beq_eq_false_iff_ne.2 hz2
      clear hres
      go_wp2_with fail
      go_ret
      rw [HRES.out]
      exact ⟨rfl, HP15.out⟩
  · have hres : addD d f G N b = (E1, d1, N) := by
      unfold addD
      rw [HBB.out.1, HE1.out.1, HE1.out.2, if_neg hz1]
    have HRES := Lib.hid hres
    have hE3 : (E1 == 0) = false := beq_eq_false_iff_ne.2 hz1
    clear hres
    go_wp2_with fail
    go_ret
    rw [HRES.out]
    exact ⟨rfl, HP12.out⟩
end Go.Proofs.Ytmlgkahadgpaiaa.Jo
