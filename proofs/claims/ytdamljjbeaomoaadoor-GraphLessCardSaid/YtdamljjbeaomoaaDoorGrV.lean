/- Graphs as arrays of sixteen cells. -/
import Derived.Test.YtdamljjbeaomoaaDoorGrP
import Derived.Test.YtdamljjbeaomoaaDoorMem
import Derived.Test.YtdamljjbeaomoaaDoorProg
namespace Go.Proofs.YtdamljjbeaomoaaDoor
open Go.RowKit
open _root_.Go.Proofs.YtdamljjbeaomoaaDoor.Own
/-- A graph's sixteen cells. -/
def gC (f : Nat → BitVec 16) : List Value := (List.range 16).map fun i => .int .u16 (nH (f i))
theorem gC_length (f : Nat → BitVec 16) : (gC f).length = 16 := by simp [gC]
theorem gC_at (f : Nat → BitVec 16) (i : Nat) (hi : i < 16) : (gC f)[i]? = some (.int .u16 (nH (f i))) := by simp [gC, hi]
theorem gC_one {f : Nat → BitVec 16} : (Array.mk (gC f)).all (·.oneCell') = true := by
  rw [Array.all_eq_true_iff_forall_mem]
  intro x hx
  have hx' : x ∈ gC f := by simpa using hx
  obtain ⟨j, _, rfl⟩ := List.mem_map.1 hx'
  rfl
theorem gC_size {f : Nat → BitVec 16} : (Tryd.prog.info? 23).map (·.size) = some (Array.mk (gC f)).size := by
  have h : (Tryd.prog.info? 23).map (·.size) = some 16 := by kernel_rfl
  rw [h]; show some 16 = some (gC f).length; rw [gC_length]
theorem gC_old {f g : Nat → BitVec 16} : (Array.mk (gC f)).size = (Array.mk (gC g)).size := by
  show (gC f).length = (gC g).length
  rw [gC_length, gC_length]
theorem gC_zero : (Tryd.prog.info? 23).map (·.zero) = some (some (.agg ⟨gC fun _ => 0#16⟩)) := by kernel_rfl
/-- A graph with one role's set turned. -/
def updF (f : Nat → BitVec 16) (k : Nat) (x : BitVec 16) (i : Nat) : BitVec 16 := if i = k then x else f i
theorem gC_congr {f g : Nat → BitVec 16} (h : ∀ i, i < 16 → f i = g i) : gC f = gC g := by
  unfold gC
  apply List.map_congr_left
  intro i hi
  rw [h i (List.mem_range.1 hi)]
theorem gC_inj {f g : Nat → BitVec 16} (h : gC f = gC g) (i : Nat) (hi : i < 16) : f i = g i := by
  have h1 := gC_at f i hi
  rw [h, gC_at g i hi] at h1
  simp at h1
  exact (u16_inj h1).symm
theorem gC_set (f : Nat → BitVec 16) (k : Nat) (x : BitVec 16) : (gC f).set k (.int .u16 (nH x)) = gC (updF f k x) := by
  apply List.ext_getElem (by simp [gC])
  intro i h1 h2
  rw [List.getElem_set]
  simp only [gC, List.getElem_map, List.getElem_range, updF]
  by_cases e : k = i
  · subst e; simp
  · rw [if_neg e, if_neg (fun h => e h.symm)]
theorem gC_setk (f : Nat → BitVec 16) (k : Nat) (x : BitVec 16) {g : Nat → BitVec 16} (h : ∀ i, i < 16 → updF f k x i = g i) : (gC f).set k (.int .u16 (nH x)) = gC g := by
  rw [gC_set]; exact gC_congr h
/-- The reference's Turn, under way: m rows over, and k places of the next one. -/
def stT (f : Nat → BitVec 16) (m k i : Nat) : BitVec 16 := if i < k then tnk f i (m + 1) else tnk f i m
theorem stT_set (f : Nat → BitVec 16) (m k : Nat) (x : BitVec 16) (h : x = tnk f k (m + 1)) : ∀ i, i < 16 → updF (stT f m k) k x i = stT f m (k + 1) i := by
  intro i _
  unfold updF stT
  by_cases e : i = k
  · subst e; simp [h]
  · rw [if_neg e]
    by_cases e2 : i < k
    · rw [if_pos e2, if_pos (by omega)]
    · rw [if_neg e2, if_neg (by omega)]
theorem stT_same (f : Nat → BitVec 16) (m k : Nat) (h : tnk f k (m + 1) = tnk f k m) : ∀ i, i < 16 → stT f m k i = stT f m (k + 1) i := by
  intro i _
  unfold stT
  by_cases e : i = k
  · subst e; simp [h]
  · by_cases e2 : i < k
    · rw [if_pos e2, if_pos (by omega)]
    · rw [if_neg e2, if_neg (by omega)]
theorem stT_next (f : Nat → BitVec 16) (m : Nat) : ∀ i, i < 16 → stT f m 16 i = stT f (m + 1) 0 i := by
  intro i hi
  unfold stT
  rw [if_pos hi, if_neg (by omega)]
theorem stT_at (f : Nat → BitVec 16) (m k : Nat) : stT f m k k = tnk f k m := by unfold stT; rw [if_neg (by omega)]
attribute [irreducible] gC
end Go.Proofs.YtdamljjbeaomoaaDoor
