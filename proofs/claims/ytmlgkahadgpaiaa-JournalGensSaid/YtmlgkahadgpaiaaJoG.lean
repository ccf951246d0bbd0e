/- Chapter 09: the plain law of a place. -/
import Derived.Test.YtmlgkahadgpaiaaJoF
import Derived.Test.YtmlgkahadgpaiaaVaP
namespace Go.Proofs.Ytmlgkahadgpaiaa.Jo
open Go.RowKit _root_.Go.Proofs.Ytmlgkahadgpaiaa.Own
open Go.Proofs.Ytmlgkahadgpaiaa.Fr
open Go.Proofs.Ytmlgkahadgpaiaa.Dk (D Is D0 torn putRow rowB wst DOk rowB_length)
set_option linter.unusedVariables false
set_option linter.unusedSimpArgs false
theorem st_of (kind : UInt8) (G i : Nat) (b : List UInt8) (hG : G ≤ 2147483647) (hi : i ≤ 65535) (hb : b.length ≤ 112) : stF kind (blockF kind G i b) G i = some b := by
  obtain ⟨r1, r2, r3, r4, r5, r6, r7, r8⟩ := read_of kind G i b hG hi hb
  unfold stF
  rw [if_pos ⟨⟨r2, r3, by omega, by omega, r8⟩, r4, r5⟩, r6, r7]
theorem st_gen (kind kind' : UInt8) (G G' i i' : Nat) (b : List UInt8) (hG : G ≤ 2147483647) (hi : i ≤ 65535) (hb : b.length ≤ 112) (hne : G ≠ G') : stF kind' (blockF kind G i b) G' i' = none := by
  obtain ⟨r1, r2, r3, r4, r5, r6, r7, r8⟩ := read_of kind G i b hG hi hb
  unfold stF
  rw [if_neg]
  rintro ⟨-, h, -⟩
  exact hne (r4.symm.trans h)
theorem st_torn (kind : UInt8) (k : Nat) (b : List UInt8) (hb : b.length = 128) (hk : k < 128) (G i : Nat) : stF kind (torn k b) G i = none := by
  unfold stF
  rw [if_neg]
  rintro ⟨⟨h, -⟩, -⟩
  exact Va.torn_not k b hb hk kind h
theorem st_zero (kind : UInt8) (G i : Nat) : stF kind zero128 G i = none := by
  unfold stF
  rw [if_neg]
  rintro ⟨⟨h, -⟩, -⟩
  exact absurd h.2.2.2.2 (by decide)
/-- A place where the record is none is none; so where the commit is. -/
theorem place_rec {all : List UInt8} {f G i : Nat} (h : stF 82 (rowB all (f + 2 * i)) G i = none) : placeD all f G i = none := by
  unfold placeD; rw [h]
theorem place_com {all : List UInt8} {f G i : Nat} (h : stF 67 (rowB all (f + 2 * i + 1)) G i = none) : placeD all f G i = none := by
  unfold placeD; rw [h]; cases stF 82 (rowB all (f + 2 * i)) G i <;> rfl
theorem place_of {all : List UInt8} {f G i : Nat} {b : List UInt8} (h : stF 82 (rowB all (f + 2 * i)) G i = some b) (h2 : stF 67 (rowB all (f + 2 * i + 1)) G i = some []) : placeD all f G i = some b := by
  unfold placeD; rw [h, h2]; rfl
/-- A place is what its two rows are. -/
theorem place_congr {all all' : List UInt8} {f i : Nat} (h1 : rowB all' (f + 2 * i) = rowB all (f + 2 * i)) (h2 : rowB all' (f + 2 * i + 1) = rowB all (f + 2 * i + 1)) (G : Nat) : placeD all' f G i = placeD all f G i := by
  unfold placeD; rw [h1, h2]
/-- The record and the commit of a place are 128 bytes. -/
theorem rec_length (kind : UInt8) (G i : Nat) (b : List UInt8) (hG : G ≤ 2147483647) (hi : i ≤ 65535) (hb : b.length ≤ 112) : (blockF kind G i b).length = 128 := (read_of kind G i b hG hi hb).1
/-- Add, row by row: the others stay; answered 0, record and commit stand. -/
theorem add_law {d : D} {n : Nat} (hl : d.all.length = n * 128) (hkp : 0 ≤ d.keep ∧ d.keep ≤ 128) {f G N : Nat} (hf : f + 2 * N + 1 < n) (b : List UInt8) (hG : G ≤ 2147483647) (hN : N ≤ 65535) (hb : b.length ≤ 112) :
    (addD d f G N b).2.1.all.length = n * 128 ∧ (addD d f G N b).2.1.keep = d.keep ∧ (∀ j, j < n → j ≠ f + 2 * N → j ≠ f + 2 * N + 1 → rowB (addD d f G N b).2.1.all j = rowB d.all j) ∧
    ((addD d f G N b).1 = 0 → (addD d f G N b).2.2 = N + 1 ∧ placeD (addD d f G N b).2.1.all f G N = some b) ∧ ((addD d f G N b).1 ≠ 0 → (addD d f G N b).2.2 = N) := by
  obtain ⟨a1, a2, a3, a4, a5⟩ := Va.wst_row hl hkp (f + 2 * N) (by omega) (blockF 82 G N b) (rec_length 82 G N b hG hN hb)
  have hc := rec_length 67 G N [] hG hN (by simp)
  unfold addD
  by_cases h1 : (wst d (f + 2 * N) (blockF 82 G N b)).1 = 0
  · rw [if_pos h1]
    have r1 := a3 h1
    generalize (wst d (f + 2 * N) (blockF 82 G N b)).2 = d1 at *
    obtain ⟨c1, c2, c3, c4, c5⟩ := Va.wst_row a1 (by rw [a5]; exact hkp) (f + 2 * N + 1) (by omega) (blockF 67 G N []) hc
    have hr : ∀ j, j < n → j ≠ f + 2 * N → j ≠ f + 2 * N + 1 → rowB (wst d1 (f + 2 * N + 1) (blockF 67 G N [])).2.all j = rowB d.all j := fun j h q1 q2 => (c2 j h q2).trans (a2 j h q1)
    by_cases h2 : (wst d1 (f + 2 * N + 1) (blockF 67 G N [])).1 = 0
    · rw [if_pos h2]
      refine ⟨c1, c5.trans a5, hr, fun _ => ⟨rfl, ?_⟩, fun h => absurd rfl h⟩
      refine place_of ?_ ?_
      · rw [c2 _ (by omega) (by omega), r1]; exact st_of 82 G N b hG hN hb
      · rw [c3 h2]; exact st_of 67 G N [] hG hN (by simp)
    · rw [if_neg h2]
      exact ⟨c1, c5.trans a5, hr, fun h => absurd h h2, fun _ => rfl⟩
  · rw [if_neg h1]
    exact ⟨a1, a5, fun j h q1 _ => a2 j h q1, fun h => absurd h h1, fun _ => rfl⟩
/-- Add leaves every other place as it was. -/
theorem add_other {d : D} {n : Nat} (hl : d.all.length = n * 128) (hkp : 0 ≤ d.keep ∧ d.keep ≤ 128) {f G N : Nat} (hf : f + 2 * N + 1 < n) (b : List UInt8) (hG : G ≤ 2147483647) (hN : N ≤ 65535) (hb : b.length ≤ 112) (q G' : Nat) (hq : f + 2 * q + 1 < n) (hne : q ≠ N) : placeD (addD d f G N b).2.1.all f G' q = placeD d.all f G' q := by
  obtain ⟨-, -, h, -⟩ := add_law hl hkp hf b hG hN hb
  exact place_congr (h _ (by omega) (by omega) (by omega)) (h _ (by omega) (by omega) (by omega)) G'
end Go.Proofs.Ytmlgkahadgpaiaa.Jo
