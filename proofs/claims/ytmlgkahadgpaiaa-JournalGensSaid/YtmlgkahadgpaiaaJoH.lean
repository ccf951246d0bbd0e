/- Chapter 09: the plain law of cleaning. -/
import Derived.Test.YtmlgkahadgpaiaaJoG
namespace Go.Proofs.Ytmlgkahadgpaiaa.Jo
open Go.RowKit _root_.Go.Proofs.Ytmlgkahadgpaiaa.Own
open Go.Proofs.Ytmlgkahadgpaiaa.Fr
open Go.Proofs.Ytmlgkahadgpaiaa.Dk (D Is D0 torn putRow rowB wst DOk rowB_length)
set_option linter.unusedVariables false
set_option linter.unusedSimpArgs false
/-- A row that is no frame of any kind. -/
def Gone (x : List UInt8) : Prop := ∀ kind G i, stF kind x G i = none
theorem gone_zero : Gone zero128 := st_zero
theorem torn_whole (b : List UInt8) (hb : b.length = 128) (k : Nat) (hk : 128 ≤ k) : torn k b = b := by
  unfold Dk.torn
  rw [List.take_of_length_le (by omega), show 128 - k = 0 by omega]
  simp
theorem gone_torn (k : Nat) : Gone (torn k zero128) := by
  by_cases hk : k < 128
  · exact fun kind G i => st_torn kind k _ zero128_length hk G i
  · rw [torn_whole _ zero128_length k (by omega)]; exact gone_zero
/-- Rows that stay or go leave no place where there was none. -/
theorem place_fade {all all' : List UInt8} {f G i : Nat} (h1 : rowB all' (f + 2 * i) = rowB all (f + 2 * i) ∨ Gone (rowB all' (f + 2 * i))) (h2 : rowB all' (f + 2 * i + 1) = rowB all (f + 2 * i + 1) ∨ Gone (rowB all' (f + 2 * i + 1))) (h : placeD all f G i = none) : placeD all' f G i = none := by
  rcases h1 with h1 | h1
  · rcases h2 with h2 | h2
    · rw [place_congr h1 h2]; exact h
    · exact place_com (h2 67 G i)
  · exact place_rec (h1 82 G i)
/-- A zero row written, whole, torn or not at all. -/
theorem zero_row {d : D} {n : Nat} (hl : d.all.length = n * 128) (hkp : 0 ≤ d.keep ∧ d.keep ≤ 128) (i : Nat) (hi : i < n) :
    (wst d i zero128).2.all.length = n * 128 ∧ (wst d i zero128).2.keep = d.keep ∧ (∀ j, j < n → j ≠ i → rowB (wst d i zero128).2.all j = rowB d.all j) ∧ (rowB (wst d i zero128).2.all i = rowB d.all i ∨ Gone (rowB (wst d i zero128).2.all i)) ∧ ((wst d i zero128).1 = 0 → Gone (rowB (wst d i zero128).2.all i)) := by
  obtain ⟨a1, a2, a3, a4, a5⟩ := Va.wst_row hl hkp i hi zero128 zero128_length
  refine ⟨a1, a5, a2, ?_, fun h => by rw [a3 h]; exact gone_zero⟩
  rcases a4 with h | h | h
  · exact .inl h
  · right; rw [h]; exact gone_torn _
  · right; rw [h]; exact gone_zero
/-- Clean, however torn: the two rows of the place stay or go, and the others stay. -/
theorem clean_law {d : D} {n : Nat} (hl : d.all.length = n * 128) (hkp : 0 ≤ d.keep ∧ d.keep ≤ 128) {f N : Nat} (hf : f + 2 * N + 1 < n) :
    (clN d f N 2).2.all.length = n * 128 ∧ (clN d f N 2).2.keep = d.keep ∧ (∀ j, j < n → rowB (clN d f N 2).2.all j = rowB d.all j ∨ ((j = f + 2 * N ∨ j = f + 2 * N + 1) ∧ Gone (rowB (clN d f N 2).2.all j))) := by
  have e1 : clN d f N 1 = wst d (f + 2 * N) zero128 := by
    show (if (clN d f N 0).1 = 0 then _ else _) = _
    rw [if_pos (show (clN d f N 0).1 = 0 from rfl)]; rfl
  have e2 : clN d f N 2 = if (wst d (f + 2 * N) zero128).1 = 0 then wst (wst d (f + 2 * N) zero128).2 (f + 2 * N + 1) zero128 else wst d (f + 2 * N) zero128 := by
    show (if (clN d f N 1).1 = 0 then _ else _) = _
    rw [e1]
  rw [e2]
  obtain ⟨a1, a2, a3, a4, a5⟩ := zero_row hl hkp (f + 2 * N) (by omega)
  have one : ∀ j, j < n → rowB (wst d (f + 2 * N) zero128).2.all j = rowB d.all j ∨ ((j = f + 2 * N ∨ j = f + 2 * N + 1) ∧ Gone (rowB (wst d (f + 2 * N) zero128).2.all j)) := by
    intro j hj
    by_cases hq : j = f + 2 * N
    · subst hq
      rcases a4 with h | h
      · exact .inl h
      · exact .inr ⟨.inl rfl, h⟩
    · exact .inl (a3 j hj hq)
  by_cases h1 : (wst d (f + 2 * N) zero128).1 = 0
  · rw [if_pos h1]
    generalize (wst d (f + 2 * N) zero128).2 = d1 at *
    obtain ⟨c1, c2, c3, c4, c5⟩ := zero_row a1 (by rw [a2]; exact hkp) (f + 2 * N + 1) (by omega)
    refine ⟨c1, c2.trans a2, fun j hj => ?_⟩
    by_cases hq : j = f + 2 * N + 1
    · subst hq
      rcases c4 with h | h
      · left; rw [h]; exact a3 _ (by omega) (by omega)
      · exact .inr ⟨.inr rfl, h⟩
    · rw [c3 j hj hq]; exact one j hj
  · rw [if_neg h1]
    exact ⟨a1, a2, one⟩
/-- A place is no more after the cleaning than it was; another is as it was. -/
theorem clean_place {d : D} {n : Nat} (hl : d.all.length = n * 128) (hkp : 0 ≤ d.keep ∧ d.keep ≤ 128) {f N : Nat} (hf : f + 2 * N + 1 < n) (G : Nat) (h : placeD d.all f G N = none) (q : Nat) (hq : f + 2 * q + 1 < n) : placeD (clN d f N 2).2.all f G q = placeD d.all f G q := by
  obtain ⟨-, -, hr⟩ := clean_law hl hkp hf
  have s1 : ∀ j, j < n → rowB (clN d f N 2).2.all j = rowB d.all j ∨ Gone (rowB (clN d f N 2).2.all j) := fun j hj => (hr j hj).imp id (·.2)
  by_cases hN : q = N
  · subst hN
    rw [h]
    exact place_fade (s1 _ (by omega)) (s1 _ hq) h
  · refine place_congr ?_ ?_ G
    · rcases hr (f + 2 * q) (by omega) with h | h
      · exact h
      · omega
    · rcases hr (f + 2 * q + 1) hq with h | h
      · exact h
      · omega
end Go.Proofs.Ytmlgkahadgpaiaa.Jo
