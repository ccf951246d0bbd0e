/- Chapter 10: Blocks, a head. -/
import Derived.Test.YtmlgkahadgpaiaaFrW
namespace Go.Proofs.Ytmlgkahadgpaiaa.Va
open Go.RowKit _root_.Go.Proofs.Ytmlgkahadgpaiaa.Own
open Go.Proofs.Ytmlgkahadgpaiaa.Fr
set_option linter.unusedVariables false
set_option linter.unusedSimpArgs false
/-- How many blocks so many bytes need. -/
def blkN (n : Nat) : Nat := (n + 127) / 128
theorem Blocks_calls (n : Nat) (hn : n ≤ 1000000) (w : World) : Calls Try.prog 14 #[.int .i64 n] w fun e w' => e = .returned (.int .i64 (blkN n)) ∧ w = w' := by
  by_cases h : n = 0
  · subst h
    go_enter Try.func14, Try.ntmps14
    go_wp2_with fail
    go_ret
    exact ⟨rfl, rfl⟩
  · have m1 : decide ((n : Int) < 1) = false := by rw [decide_eq_false_iff_not]; omega
    have f1 : IntKind.i64.wrap ((n : Int) - 1) = (n : Int) - 1 := by rw [IntKind.wrap_i64]; omega
    have f2 : ((n : Int) - 1).tdiv 128 = ((blkN n : Nat) : Int) - 1 := by rw [Int.tdiv_eq_ediv_of_nonneg (by omega)]; unfold blkN; omega
    have f3 : IntKind.i64.wrap (((blkN n : Nat) : Int) - 1) = ((blkN n : Nat) : Int) - 1 := by rw [IntKind.wrap_i64]; unfold blkN; omega
    have f4 : IntKind.i64.wrap (((blkN n : Nat) : Int) - 1 + 1) = ((blkN n : Nat) : Int) := by rw [IntKind.wrap_i64]; unfold blkN; omega
    go_enter Try.func14, Try.ntmps14
    go_wp2_with fail
    go_ret
    refine ⟨?_, rfl⟩
    have f5 : wrap64 ((blkN n : Nat) : Int) = ((blkN n : Nat) : Int) := by unfold wrap64 blkN; omega
    first | rfl | (simp; exact f5) | simp [f5]
theorem BlocksNeg_calls (n : Int) (hn : n < 1) (w : World) : Calls Try.prog 14 #[.int .i64 n] w fun e w' => e = .returned (.int .i64 0) ∧ w = w' := by
  have m1 := decide_eq_true hn
  go_enter Try.func14, Try.ntmps14
  go_wp2_with fail
  go_ret
  exact ⟨rfl, rfl⟩
/-- What a head's frame holds. -/
def headP (b : List UInt8) : List UInt8 := be b.length 4 ++ be (crc b).toNat 4
def headF (gen : Nat) (b : List UInt8) : List UInt8 := blockF 86 gen (blkN b.length) (headP b)
theorem headP_length (b : List UInt8) : (headP b).length = 8 := by simp [headP, be_length]
set_option maxRecDepth 10000 in
set_option maxHeartbeats 4000000 in
theorem head_calls (gen : Nat) (hg : gen ≤ 2147483647) (A : Option Addr) (n c : Nat) (b : List UInt8) (hn : n = b.length) (hb : n ≤ 32640) (hA : A = none → c = 0) (w : World) (hR : Rd w A (bys b)) :
    Calls Try.prog 41 #[.int .i64 gen, .slice A n c] w fun e w' => ∃ v, e = .returned (.tuple #[v, .int .i64 0]) ∧ Has w.heap.size 5 v (bys (headF gen b)) w' ∧ Below w.heap.size w w' := by
  have HR := Lib.hid hR
  have HN := Lib.hid hn
  have hcr : (crc b).toNat < 256 ^ 4 := (crc b).isLt
  have hnn : n < 256 ^ 4 := by omega
  have HCr := Lib.hid hcr
  have HNn := Lib.hid hnn
  have Hg := Lib.hid hg
  have hgw : wrap64 (nW (crc b)) = (((crc b).toNat : Nat) : Int) := by have := (crc b).isLt; unfold wrap64 nW; omega
  have HGw := Lib.hid hgw
  have hbn : blkN n ≤ 255 := by unfold blkN; omega
  have hbn2 : blkN n ≤ 65535 := by omega
  have HBn := Lib.hid hbn2
  clear hR hn hcr hnn hg hbn hbn2
  go_enter Try.func41, Try.ntmps41
  go_wp2_with fail
  have W0 : WrIs w.heap.size w.heap.size (.slice none 0 0) [] (w.alloc (.cells ⟨[.int .i64 0, .slice none 0 0]⟩ 96 (0, 0))) := ⟨heap_alloc_new w _, Has.nil _ _ _, Nat.le_refl _⟩
  have B0 := (Below.refl w.heap.size w).alloc (Nat.le_refl _) (.cells ⟨[.int .i64 0, .slice none 0 0]⟩ 96 (0, 0))
  refine (Num_calls W0 n 4 (by simp) HNn.out (by simp) B0.size).mono ?_
  rintro e w1 ⟨rfl, v1, W1, b1⟩
  have B1 := Lib.hid (B0.trans b1)
  have HW1 := Lib.hid W1
  clear W0 B0 b1 W1
  go_wp2_with fail
  have hS : Calls Try.prog 56 #[.slice (some ⟨w1.heap.size, 0, none⟩) 1 1] (w1.alloc (.cells ⟨[Value.slice A n c]⟩ 23 (0, 0))) fun e w' => e = .returned (.int .u32 (nW (crc b))) ∧ Below (w1.alloc (.cells ⟨[Value.slice A n c]⟩ 23 (0, 0))).heap.size (w1.alloc (.cells ⟨[Value.slice A n c]⟩ 23 (0, 0))) w' := by
    have h0 := Sum_calls (some ⟨w1.heap.size, 0, none⟩) 1 [(A, c, b)] (by simp) (w1.alloc (.cells ⟨[Value.slice A b.length c]⟩ 23 (0, 0))) (Rd.one _ _) (by intro p hp; obtain rfl := List.mem_singleton.1 hp; exact ⟨by simp only; rw [← HN.out]; omega, HR.out.below (B1.out.alloc B1.out.size _)⟩)
    rw [flat_one] at h0
    rw [HN.out]
    exact h0
  refine hS.mono ?_
  rintro e w2 ⟨rfl, hb2⟩
  clear hS
  have hb12 := ((Below.refl w1.heap.size w1).alloc (Nat.le_refl _) (.cells ⟨[Value.slice A n c]⟩ 23 (0, 0))).trans (hb2.mono (by simp))
  have W2 := HW1.out.below hb12
  have B2 := B1.out.trans (hb12.mono B1.out.size)
  clear hb2 hb12 HW1
  go_wp2_with fail
  refine (Num_calls W2 (crc b).toNat 4 (by simp) HCr.out (by simp [be_length]) B2.size).mono ?_
  rintro e w3 ⟨rfl, v3, W3, b3⟩
  have B3 := B2.trans b3
  clear W2 B2 b3
  go_wp2_with fail
  refine (Done_calls W3 (by simp [be_length])).mono ?_
  rintro e w5 ⟨u, rfl, hu, b5⟩
  have B5 := Lib.hid (B3.trans (b5.mono B3.size))
  have hu5 := Has.base hu B3.size
  rw [show [] ++ be n 4 ++ be (crc b).toNat 4 = headP b from by unfold headP; rw [← HN.out]; rfl] at hu5
  obtain ⟨A6, c6, rfl, hc6, hA6, hR6⟩ := hu5.form
  rw [bys_length, headP_length] at hc6 ⊢
  have HR6 := Lib.hid hR6
  clear W3 B3 b5 hu hu5 hR6
  go_wp2_with fail
  refine (Blocks_calls n (by omega) w5).mono ?_
  rintro e w6 ⟨rfl, rfl⟩
  go_wp2_with fail
  refine (WriteOk_calls 86 gen (blkN n) Hg.out HBn.out A6 8 c6 (headP b) (headP_length b).symm (by decide) hA6 w5 HR6.out).mono ?_
  rintro e w7 ⟨v7, rfl, hv7, b7⟩
  have hv8 := Has.base hv7 B5.out.size
  rw [show blockF 86 gen (blkN n) (headP b) = headF gen b from by unfold headF; rw [← HN.out]] at hv8
  have HV8 := Lib.hid hv8
  have B7 := Lib.hid (B5.out.trans (b7.mono B5.out.size))
  clear hv7 hv8 b7
  go_wp2_with fail
  go_ret2
  exact ⟨v7, rfl, HV8.out, B7.out⟩
end Go.Proofs.Ytmlgkahadgpaiaa.Va
