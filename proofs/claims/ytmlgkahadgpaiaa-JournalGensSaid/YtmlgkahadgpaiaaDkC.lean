/- Chapter 07: a disk in memory; its methods that read. -/
import Derived.Test.YtmlgkahadgpaiaaDkB
import Derived.Test.YtmlgkahadgpaiaaOn2
namespace Go.Proofs.Ytmlgkahadgpaiaa.Dk
open Go.RowKit _root_.Go.Proofs.Ytmlgkahadgpaiaa.Own
set_option linter.unusedVariables false
set_option linter.unusedSimpArgs false
structure D where
  all : List UInt8
  off : Bool
  armed : Bool
  left : Int
  keep : Int
  writes : Int
/-- The disk's own cells: g; its blocks lie in block r: n of them, room for c. -/
def dcells (r n c : Nat) (d : D) : List Value := [.slice (some ⟨r, 0, none⟩) n c, .bool d.off, .bool d.armed, .int .i64 d.left, .int .i64 d.keep, .int .i64 d.writes]
theorem dcells_is (r n c : Nat) (d : D) : dcells r n c d = [.slice (some ⟨r, 0, none⟩) n c, .bool d.off, .bool d.armed, .int .i64 d.left, .int .i64 d.keep, .int .i64 d.writes] := rfl
/-- A disk in the world. -/
structure Is (g r n c : Nat) (R : List Value) (d : D) (w : World) : Prop where
  own : w.heap[g]? = some (.cells ⟨dcells r n c d⟩ 79 (0, 0))
  row : w.heap[r]? = some (.cells ⟨bys d.all ++ R⟩ 91 (0, 0))
  len : d.all.length = n * 128
theorem Is.cells {g r n c : Nat} {R : List Value} {d : D} {w : World} (h : Is g r n c R d w) : w.cell? ⟨g, 0, none⟩ = some (.slice (some ⟨r, 0, none⟩) n c) ∧ w.cell? ⟨g, 1, none⟩ = some (.bool d.off) ∧ w.cell? ⟨g, 2, none⟩ = some (.bool d.armed) ∧ w.cell? ⟨g, 3, none⟩ = some (.int .i64 d.left) ∧ w.cell? ⟨g, 4, none⟩ = some (.int .i64 d.keep) ∧ w.cell? ⟨g, 5, none⟩ = some (.int .i64 d.writes) := by
  have k := fun i => cell_of_row w g i _ _ _ h.own
  exact ⟨k 0, k 1, k 2, k 3, k 4, k 5⟩
theorem Len_calls {g r n c : Nat} {R : List Value} {d : D} {w : World} (h : Is g r n c R d w) : Calls Try.prog 39 #[.pointer (some ⟨g, 0, none⟩)] w fun e w' => e = .returned (.int .i64 n) ∧ Below w.heap.size w w' := by
  obtain ⟨h0, h1, h2, h3, h4, h5⟩ := h.cells
  clear h
  have H0 := At.refl w
  go_enter Try.func39, Try.ntmps39
  go_wp2_with fail
  go_ret
  exact ⟨rfl, Below.refl _ _⟩
theorem On_calls {g r n c : Nat} {R : List Value} {d : D} {w : World} (h : Is g r n c R d w) : Calls Try.prog 21 #[.pointer (some ⟨g, 0, none⟩)] w fun e w' => e = .returned (.bool (!d.off)) ∧ Below w.heap.size w w' := by
  obtain ⟨h0, h1, h2, h3, h4, h5⟩ := h.cells
  clear h
  have H0 := At.refl w
  go_enter Try.func21, Try.ntmps21
  go_wp2_with fail
  go_ret
  exact ⟨rfl, Below.refl _ _⟩
theorem Writes_calls {g r n c : Nat} {R : List Value} {d : D} {w : World} (h : Is g r n c R d w) : Calls Try.prog 37 #[.pointer (some ⟨g, 0, none⟩)] w fun e w' => e = .returned (.int .i64 d.writes) ∧ Below w.heap.size w w' := by
  obtain ⟨h0, h1, h2, h3, h4, h5⟩ := h.cells
  clear h
  have H0 := At.refl w
  go_enter Try.func37, Try.ntmps37
  go_wp2_with fail
  go_ret
  exact ⟨rfl, Below.refl _ _⟩
/-- Is there such a block? -/
def blockV (n : Nat) (i : Int) : Int := if 0 ≤ i ∧ i < n then 0 else 8
theorem block_calls {g r n c : Nat} {R : List Value} {d : D} {w : World} (h : Is g r n c R d w) (i : Int) : Calls Try.prog 53 #[.pointer (some ⟨g, 0, none⟩), .int .i64 i] w fun e w' => e = .returned (.int .i64 (blockV n i)) ∧ Below w.heap.size w w' := by
  obtain ⟨h0, h1, h2, h3, h4, h5⟩ := h.cells
  clear h
  have H0 := At.refl w
  unfold blockV
  by_cases c1 : i < 0
  · have m1 := decide_eq_true c1
    rw [if_neg (by omega)]
    go_enter Try.func53, Try.ntmps53
    go_wp2_with fail
    go_ret
    exact ⟨rfl, Below.refl _ _⟩
  · have m1 := decide_eq_false c1
    by_cases c2 : i < n
    · have m2 : decide (i ≥ (n : Int)) = false := by rw [decide_eq_false_iff_not]; omega
      rw [if_pos (by omega)]
      go_enter Try.func53, Try.ntmps53
      go_wp2_with fail
      go_ret
      exact ⟨rfl, Below.refl _ _⟩
    · have m2 : decide (i ≥ (n : Int)) = true := by rw [decide_eq_true_eq]; omega
      rw [if_neg (by omega)]
      go_enter Try.func53, Try.ntmps53
      go_wp2_with fail
      go_ret
      exact ⟨rfl, Below.refl _ _⟩
theorem nilLen_calls (w : World) : Calls Try.prog 39 #[.pointer none] w fun e w' => e = .returned (.int .i64 0) ∧ Below w.heap.size w w' := by
  go_enter Try.func39, Try.ntmps39
  go_wp2_with fail
  go_ret
  exact ⟨rfl, Below.refl _ _⟩
theorem nilOn_calls (w : World) : Calls Try.prog 21 #[.pointer none] w fun e w' => e = .returned (.bool false) ∧ Below w.heap.size w w' := by
  go_enter Try.func21, Try.ntmps21
  go_wp2_with fail
  go_ret
  exact ⟨rfl, Below.refl _ _⟩
theorem nilWrites_calls (w : World) : Calls Try.prog 37 #[.pointer none] w fun e w' => e = .returned (.int .i64 0) ∧ Below w.heap.size w w' := by
  go_enter Try.func37, Try.ntmps37
  go_wp2_with fail
  go_ret
  exact ⟨rfl, Below.refl _ _⟩
theorem nilblock_calls (i : Int) (w : World) : Calls Try.prog 53 #[.pointer none, .int .i64 i] w fun e w' => e = .returned (.int .i64 2) ∧ Below w.heap.size w w' := by
  go_enter Try.func53, Try.ntmps53
  go_wp2_with fail
  go_ret
  exact ⟨rfl, Below.refl _ _⟩
theorem nilRead_calls (i : Int) (w : World) : Calls Try.prog 58 #[.pointer none, .int .i64 i] w fun e w' => e = .returned (.tuple #[.slice none 0 0, .int .i64 2]) ∧ Below w.heap.size w w' := by
  have H0 := At.refl w
  go_enter Try.func58, Try.ntmps58
  go_wp2_with fail
  refine callAt (nilblock_calls i _) H0 ?_
  rintro e w1 rfl H1
  go_wp2_with fail
  go_ret2
  exact ⟨rfl, H1.below⟩
theorem nilWrite_calls (i : Int) (A : Option Addr) (m c : Nat) (w : World) : Calls Try.prog 34 #[.pointer none, .int .i64 i, .slice A m c] w fun e w' => e = .returned (.int .i64 2) ∧ Below w.heap.size w w' := by
  have H0 := At.refl w
  go_enter Try.func34, Try.ntmps34
  go_wp2_with fail
  refine callAt (nilblock_calls i _) H0 ?_
  rintro e w1 rfl H1
  go_wp2_with fail
  go_ret
  exact ⟨rfl, H1.below⟩
theorem nilArm_calls (i k : Int) (w : World) : Calls Try.prog 15 #[.pointer none, .int .i64 i, .int .i64 k] w fun e w' => e = .returned (.int .i64 2) ∧ Below w.heap.size w w' := by
  go_enter Try.func15, Try.ntmps15
  go_wp2_with fail
  go_ret
  exact ⟨rfl, Below.refl _ _⟩
theorem nilPower_calls (w : World) : Calls Try.prog 16 #[.pointer none] w fun e w' => e = .returned (.tuple #[]) ∧ Below w.heap.size w w' := by
  go_enter Try.func16, Try.ntmps16
  go_wp2_with fail
  go_end0
  exact ⟨rfl, Below.refl _ _⟩
end Go.Proofs.Ytmlgkahadgpaiaa.Dk
