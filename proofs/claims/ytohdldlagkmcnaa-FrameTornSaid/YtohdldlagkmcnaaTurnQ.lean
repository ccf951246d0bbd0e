/- Sealed bytes with bits turned within 32 positions are not sealed: plain. -/
import Derived.Test.YtohdldlagkmcnaaTurnP
import Derived.Test.YtohdldlagkmcnaaCrcC
namespace Go.Proofs.Ytohdldlagkmcnaa
open Own
theorem bitAt_eq (xs : List UInt8) (i : Nat) (h : i / 8 < xs.length) : bitAt xs i = (xs[i / 8]).toBitVec.getLsbD (i % 8) := by simp [bitAt, h]
theorem bitAt_over (xs : List UInt8) (i : Nat) (h : 8 * xs.length ≤ i) : bitAt xs i = false := by
  simp [bitAt, show ¬ i / 8 < xs.length by omega]
theorem bits_ext (xs ys : List UInt8) (hl : xs.length = ys.length) (h : ∀ i, bitAt xs i = bitAt ys i) : xs = ys := by
  apply List.ext_getElem hl
  intro k hx hy
  apply UInt8.eq_of_toBitVec_eq
  apply BitVec.eq_of_getLsbD_eq
  intro i hi
  have h1 := h (8 * k + i)
  have e1 : (8 * k + i) / 8 = k := by omega
  have e2 : (8 * k + i) % 8 = i := by omega
  rw [bitAt_eq xs _ (by omega), bitAt_eq ys _ (by omega)] at h1
  simpa only [e1, e2] using h1
theorem lowB_bit (z : BitVec 32) (i : Nat) : bitAt (lowB z) i = z.getLsbD i := by
  by_cases h : i < 32
  · unfold bitAt lowB
    obtain h4 | h4 | h4 | h4 : i / 8 = 0 ∨ i / 8 = 1 ∨ i / 8 = 2 ∨ i / 8 = 3 := by omega
    all_goals
      simp [h4]
      rw [decide_eq_true (by omega), Bool.true_and]
      try (congr 1; omega)
  · rw [bitAt_over _ _ (by simp [lowB]; omega), BitVec.getLsbD_of_ge _ _ (by omega)]
theorem bitAt_drop (xs : List UInt8) (n i : Nat) : bitAt (xs.drop n) i = bitAt xs (8 * n + i) := by
  unfold bitAt
  rw [List.map_drop, List.getElem?_drop, show (8 * n + i) % 8 = i % 8 by omega, show (8 * n + i) / 8 = n + i / 8 by omega]
theorem sts_nil (k : Nat) : sts k 0#32 = 0#32 := by
  induction k with
  | zero => rfl
  | succ k ih => show st (sts k _) = _; rw [ih]; exact st_nil
theorem turned_none (xs ys : List UInt8) (n : Nat) (hx : n + 4 = xs.length) (hy : ys.length = xs.length) (vx : lowB (crc (xs.take n)) = xs.drop n) (vy : lowB (crc (ys.take n)) = ys.drop n)
    (p : Nat) (hp : p + 32 ≤ 8 * xs.length) (h : ∀ i, i < p ∨ p + 32 ≤ i → bitAt xs i = bitAt ys i) : xs = ys := by
  have hz := fd_none (fun i => bitAt xs i != bitAt ys i) (8 * n + 32) p (by omega) (fun i hi => by simp [h i (.inl hi)]) (fun i hi => by simp [h i (.inr hi)]) ?_
  · exact bits_ext xs ys hy.symm fun i => by simpa using hz i
  · rw [fd_win _ _ _ 32 (by omega), ← reg_fd xs ys hy.symm n (by omega)]
    have hw : win (fun i => bitAt xs i != bitAt ys i) (8 * n) 32 = reg ini (xs.take n) ^^^ reg ini (ys.take n) := by
      apply BitVec.eq_of_getLsbD_eq
      intro i hi
      rw [win_bit _ _ _ _ (by omega), ← bitAt_drop, ← bitAt_drop, ← vx, ← vy, lowB_bit, lowB_bit, BitVec.getLsbD_xor]
      unfold crc
      rw [BitVec.getLsbD_not, BitVec.getLsbD_not]
      simp only [hi, decide_true, Bool.true_and]
      cases (reg ini (xs.take n)).getLsbD i <;> cases (reg ini (ys.take n)).getLsbD i <;> rfl
    rw [hw, BitVec.xor_self]
    exact sts_nil 32
/-- The same, where the first of the 32 positions may lie anywhere. -/
theorem turned (xs ys : List UInt8) (n : Nat) (hx : n + 4 = xs.length) (hy : ys.length = xs.length) (vx : lowB (crc (xs.take n)) = xs.drop n) (vy : lowB (crc (ys.take n)) = ys.drop n)
    (k : Int) (h : ∀ i : Nat, (i : Int) < k ∨ k + 32 ≤ i → bitAt xs i = bitAt ys i) : xs = ys := by
  by_cases h1 : k < 0
  · exact turned_none xs ys n hx hy vx vy 0 (by omega) fun i hi => h i (by omega)
  by_cases h2 : k + 32 ≤ 8 * xs.length
  · exact turned_none xs ys n hx hy vx vy k.toNat (by omega) fun i hi => h i (by omega)
  · refine turned_none xs ys n hx hy vx vy (8 * xs.length - 32) (by omega) fun i hi => ?_
    rcases hi with hi | hi
    · exact h i (by omega)
    · rw [bitAt_over xs i (by omega), bitAt_over ys i (by omega)]
end Go.Proofs.Ytohdldlagkmcnaa
