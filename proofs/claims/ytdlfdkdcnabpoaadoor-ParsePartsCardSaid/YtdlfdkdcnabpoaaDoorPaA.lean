/- Layer 17: Args, the program's and the document's. -/
import Derived.Test.YtdlfdkdcnabpoaaDoorPaQ
namespace Go.Proofs.YtdlfdkdcnabpoaaDoor.Pa
set_option linter.unusedSimpArgs false
set_option linter.unusedVariables false
open Go.RowKit
open _root_.Go.Proofs.YtdlfdkdcnabpoaaDoor.Own
/-- How many arguments. -/
def argsI (k : Int) : Int := if 1 ≤ k ∧ k ≤ 5 then 0 else if 6 ≤ k ∧ k ≤ 11 then 1 else if 12 ≤ k ∧ k ≤ 15 then 2 else -1
theorem argsI_cases (k : Int) : (1 ≤ k ∧ k ≤ 5 ∧ argsI k = 0) ∨ (6 ≤ k ∧ k ≤ 11 ∧ argsI k = 1) ∨ (12 ≤ k ∧ k ≤ 15 ∧ argsI k = 2) ∨ ((k < 1 ∨ 15 < k) ∧ argsI k = -1) := by
  unfold argsI
  by_cases h1 : 1 ≤ k ∧ k ≤ 5
  · rw [if_pos h1]; omega
  rw [if_neg h1]
  by_cases h2 : 6 ≤ k ∧ k ≤ 11
  · rw [if_pos h2]; omega
  rw [if_neg h2]
  by_cases h3 : 12 ≤ k ∧ k ≤ 15
  · rw [if_pos h3]; omega
  rw [if_neg h3]
  omega
set_option maxRecDepth 10000 in
set_option maxHeartbeats 4000000 in
theorem Args_calls (k : Int) (w : World) : Calls Tryd.prog 20 #[.int .i64 k] w fun e w' => e = .returned (.int .i64 (argsI k)) ∧ w = w' := by
  rcases argsI_cases k with ⟨h1, h2, e⟩ | ⟨h1, h2, e⟩ | ⟨h1, h2, e⟩ | ⟨h, e⟩
  · have i1 : (1 ≤ k) = True := by simp; omega
    have i2 : (k ≤ 5) = True := by simp; omega
    rw [e]
    clear h1 h2 e
    go_enter Tryd.func20, Tryd.ntmps20
    go_wp2_with fail
    go_returns
    exact ⟨rfl, rfl⟩
  · have i1 : (1 ≤ k) = True := by simp; omega
    have i2 : (k ≤ 5) = False := by simp; omega
    have i3 : (6 ≤ k) = True := by simp; omega
    have i4 : (k ≤ 11) = True := by simp; omega
    rw [e]
    clear h1 h2 e
    go_enter Tryd.func20, Tryd.ntmps20
    go_wp2_with fail
    go_returns
    exact ⟨rfl, rfl⟩
  · have i1 : (1 ≤ k) = True := by simp; omega
    have i2 : (k ≤ 5) = False := by simp; omega
    have i3 : (6 ≤ k) = True := by simp; omega
    have i4 : (k ≤ 11) = False := by simp; omega
    have i5 : (12 ≤ k) = True := by simp; omega
    have i6 : (k ≤ 15) = True := by simp; omega
    rw [e]
    clear h1 h2 e
    go_enter Tryd.func20, Tryd.ntmps20
    go_wp2_with fail
    go_returns
    exact ⟨rfl, rfl⟩
  · rw [e]
    rcases h with h | h
    · have i1 : (1 ≤ k) = False := by simp; omega
      have i3 : (6 ≤ k) = False := by simp; omega
      have i5 : (12 ≤ k) = False := by simp; omega
      clear h e
      go_enter Tryd.func20, Tryd.ntmps20
      go_wp2_with fail
      go_returns
      exact ⟨rfl, rfl⟩
    · have i1 : (1 ≤ k) = True := by simp; omega
      have i2 : (k ≤ 5) = False := by simp; omega
      have i3 : (6 ≤ k) = True := by simp; omega
      have i4 : (k ≤ 11) = False := by simp; omega
      have i5 : (12 ≤ k) = True := by simp; omega
      have i6 : (k ≤ 15) = False := by simp; omega
      clear h e
      go_enter Tryd.func20, Tryd.ntmps20
      go_wp2_with fail
      go_returns
      exact ⟨rfl, rfl⟩
def argRow : List Value := [.int .i64 0, .int .i64 0, .int .i64 0, .int .i64 0, .int .i64 0, .int .i64 0, .int .i64 1, .int .i64 1, .int .i64 1, .int .i64 1, .int .i64 1, .int .i64 1, .int .i64 2, .int .i64 2, .int .i64 2, .int .i64 2]
theorem argRow_at : ∀ k : Nat, 1 ≤ k → k < 16 → argRow[k]? = some (.int .i64 (argsI k)) := by
  intro k h1 h2
  obtain rfl | rfl | rfl | rfl | rfl | rfl | rfl | rfl | rfl | rfl | rfl | rfl | rfl | rfl | rfl : k = 1 ∨ k = 2 ∨ k = 3 ∨ k = 4 ∨ k = 5 ∨ k = 6 ∨ k = 7 ∨ k = 8 ∨ k = 9 ∨ k = 10 ∨ k = 11 ∨ k = 12 ∨ k = 13 ∨ k = 14 ∨ k = 15 := by omega
  all_goals rfl
set_option maxRecDepth 10000 in
set_option maxHeartbeats 4000000 in
theorem RArgs_calls (k : Int) (w : World) : Calls Tryd.prog 21 #[.int .i64 k] w fun e w' => e = .returned (.int .i64 (argsI k)) ∧ Below w.heap.size w w' := by
  by_cases h1 : k < 1
  · have e : argsI k = -1 := by rcases argsI_cases k with h | h | h | h <;> omega
    have i1 : (k < 1) = True := by simp; omega
    rw [e]
    clear h1 e
    go_enter Tryd.func21, Tryd.ntmps21
    go_wp2_with fail
    go_returns
    exact ⟨rfl, .refl _ _⟩
  · by_cases h2 : 15 < k
    · have e : argsI k = -1 := by rcases argsI_cases k with h | h | h | h <;> omega
      have i1 : (k < 1) = False := by simp; omega
      have i2 : (15 < k) = True := by simp; omega
      rw [e]
      clear h1 h2 e
      go_enter Tryd.func21, Tryd.ntmps21
      go_wp2_with fail
      go_returns
      exact ⟨rfl, .refl _ _⟩
    · obtain ⟨m, rfl⟩ : ∃ m : Nat, k = m := ⟨k.toNat, by omega⟩
      have i1 : ((m : Int) < 1) = False := by simp; omega
      have i2 : ((15 : Int) < (m : Int)) = False := by simp; omega
      have d1 : decide (m < 1) = false := decide_eq_false (by omega)
      have d2 : decide (15 < m) = false := decide_eq_false (by omega)
      have h16 : m < 16 := by omega
      have HA := Lib.hid (argRow_at m (by omega) h16)
      have hrow : (w.alloc (.cells ⟨argRow⟩ 3)).heap[w.heap.size]? = some (.cells ⟨argRow⟩ 3 (0, 0)) := heap_alloc_new w _
      have hc : (w.alloc (.cells ⟨argRow⟩ 3)).cell? ⟨w.heap.size, m, none⟩ = some (.int .i64 (argsI m)) := by
        rw [cell_of_row _ _ m _ _ _ hrow, ← Array.getElem?_toList]; exact HA.out
      have hb : Below w.heap.size w (w.alloc (.cells ⟨argRow⟩ 3)) := (Below.refl _ _).alloc (Nat.le_refl _) _
      have HB := Lib.hid hb
      have j1 : (0 : Int) ≤ (m : Int) := by omega
      have j2 : ((m : Int) < 16) = True := by simp; omega
      unfold argRow at hc
      clear h1 h2 hrow hb
      go_enter Tryd.func21, Tryd.ntmps21
      go_wp2_with fail
      go_returns
      exact ⟨rfl, HB.out⟩
end Go.Proofs.YtdlfdkdcnabpoaaDoor.Pa
