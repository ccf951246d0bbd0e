/- What the checksum is worth: bits turned within 32 positions are always found. Plain lemmas. -/
import Derived.Test.YtohdldlagkmcnaaCrcQ
namespace Go.Proofs.Ytohdldlagkmcnaa.Own
/-- Bit i of bytes, the lowest bit of a byte first. -/
def bitAt (xs : List UInt8) (i : Nat) : Bool := ((xs.map fun c => c.toBitVec.getLsbD (i % 8))[i / 8]?).getD false
def b1 (b : Bool) : BitVec 32 := if b = true then 1#32 else 0#32
/-- The register behind k bits, from r. -/
def fd (g : Nat → Bool) (r : BitVec 32) : Nat → BitVec 32
  | 0 => r
  | k + 1 => st (fd g r k ^^^ b1 (g k))
/-- j bits from bit p on, as a number. -/
def win (g : Nat → Bool) (p : Nat) : Nat → BitVec 32
  | 0 => 0#32
  | j + 1 => win g p j ^^^ (b1 (g (p + j)) <<< j)
theorem b1_bit (b : Bool) (i : Nat) : (b1 b).getLsbD i = (decide (i = 0) && b) := by
  unfold b1
  cases b
  · simp
  · simp [BitVec.getLsbD_one]
theorem win_bit (g : Nat → Bool) (p j i : Nat) (hj : j ≤ 32) : (win g p j).getLsbD i = (decide (i < j) && g (p + i)) := by
  induction j with
  | zero => simp [win]
  | succ j ih =>
    rw [win, BitVec.getLsbD_xor, ih (by omega), BitVec.getLsbD_shiftLeft, b1_bit]
    by_cases h1 : i < j
    · simp [h1, show i < j + 1 by omega]
    · by_cases h2 : i = j
      · subst h2; simp; omega
      · simp [h1, show ¬ i < j + 1 by omega, show ¬ i - j = 0 by omega]
theorem fd_win (g : Nat → Bool) (r : BitVec 32) (p j : Nat) (hj : j ≤ 32) : fd g r (p + j) = sts j (fd g r p ^^^ win g p j) := by
  induction j with
  | zero => simp [win, sts]
  | succ j ih =>
    show st (fd g r (p + j) ^^^ b1 (g (p + j))) = st (sts j _)
    rw [ih (by omega), win, ← BitVec.xor_assoc, sts_xor j _ (b1 (g (p + j)) <<< j)]
    congr 2
    rw [sts_low]
    · apply BitVec.eq_of_getLsbD_eq
      intro i hi
      rw [BitVec.getLsbD_ushiftRight, BitVec.getLsbD_shiftLeft, b1_bit]
      by_cases h0 : i = 0
      · subst h0; cases g (p + j) <;> simp [show j < 32 by omega, b1]
      · simp [b1_bit, h0]
    · intro i hi
      rw [BitVec.getLsbD_shiftLeft]
      simp [hi]
theorem st_zero {x : BitVec 32} (h : st x = 0#32) : x = 0#32 := by
  rw [st_eq] at h
  have h31 := congrArg (fun y : BitVec 32 => y.getLsbD 31) h
  simp only [BitVec.getLsbD_xor, BitVec.getLsbD_ushiftRight, BitVec.getLsbD_zero] at h31
  rw [BitVec.getLsbD_of_ge x (1 + 31) (by omega)] at h31
  cases ho : odd x with
  | true => rw [ho] at h31; exact absurd h31 (by decide)
  | false =>
    rw [ho] at h
    simp at h
    apply BitVec.eq_of_getLsbD_eq
    intro i hi
    cases i with
    | zero => unfold odd at ho; rw [ho]; simp
    | succ i =>
      have := congrArg (fun y : BitVec 32 => y.getLsbD i) h
      simp only [BitVec.getLsbD_ushiftRight, BitVec.getLsbD_zero] at this
      rw [show i + 1 = 1 + i by omega, this]; simp
theorem sts_zero {x : BitVec 32} (k : Nat) (h : sts k x = 0#32) : x = 0#32 := by
  induction k with
  | zero => exact h
  | succ k ih => exact ih (st_zero h)
theorem st_nil : st 0#32 = 0#32 := by decide
/-- Bits that lie within 32 positions, and leave no trace, are none. -/
theorem fd_none (g : Nat → Bool) (N p : Nat) (hp : p + 32 ≤ N) (hlo : ∀ i, i < p → g i = false) (hhi : ∀ i, p + 32 ≤ i → g i = false) (h : fd g 0#32 N = 0#32) : ∀ i, g i = false := by
  have h0 : ∀ k, k ≤ p → fd g 0#32 k = 0#32 := by
    intro k hk
    induction k with
    | zero => rfl
    | succ k ih => show st (_ ^^^ b1 _) = _; rw [ih (by omega), hlo k (by omega)]; exact st_nil
  have h1 : ∀ m, fd g 0#32 (p + 32 + m) = 0#32 → fd g 0#32 (p + 32) = 0#32 := by
    intro m
    induction m with
    | zero => exact id
    | succ m ih =>
      intro hm
      have hm' : st (fd g 0#32 (p + 32 + m) ^^^ b1 (g (p + 32 + m))) = 0#32 := hm
      rw [hhi (p + 32 + m) (by omega)] at hm'
      have := st_zero hm'
      exact ih (by simpa [b1] using this)
  have h2 := h1 (N - (p + 32)) (by rw [show p + 32 + (N - (p + 32)) = N by omega]; exact h)
  rw [fd_win g _ p 32 (by omega), h0 p (Nat.le_refl _), BitVec.zero_xor] at h2
  have h3 := sts_zero 32 h2
  intro i
  by_cases h4 : i < p
  · exact hlo i h4
  by_cases h5 : p + 32 ≤ i
  · exact hhi i h5
  have h6 := win_bit g p 32 (i - p) (by omega)
  rw [h3, show p + (i - p) = i by omega] at h6
  simpa [show i - p < 32 by omega] using h6.symm
/-- The two registers differ as the bits that differ leave them. -/
theorem reg_fd (xs ys : List UInt8) (hl : xs.length = ys.length) (k : Nat) (hk : k ≤ xs.length) :
    reg ini (xs.take k) ^^^ reg ini (ys.take k) = fd (fun i => bitAt xs i != bitAt ys i) 0#32 (8 * k) := by
  induction k with
  | zero => simp [reg, fd]
  | succ k ih =>
    have hx : k < xs.length := by omega
    have hy : k < ys.length := by omega
    rw [reg_take ini xs k hx, reg_take ini ys k hy, upd_sts, upd_sts, ← sts_xor, show 8 * (k + 1) = 8 * k + 8 by omega, fd_win _ _ _ 8 (by omega), ← ih (by omega)]
    congr 1
    have hw : zx xs[k] ^^^ zx ys[k] = win (fun i => bitAt xs i != bitAt ys i) (8 * k) 8 := by
      apply BitVec.eq_of_getLsbD_eq
      intro i hi
      rw [win_bit _ _ _ _ (by omega), BitVec.getLsbD_xor]
      unfold zx
      rw [BitVec.getLsbD_setWidth, BitVec.getLsbD_setWidth]
      by_cases h8 : i < 8
      · have e1 : (8 * k + i) / 8 = k := by omega
        have e2 : (8 * k + i) % 8 = i := by omega
        simp [bitAt, e1, e2, h8, hx, hy, hi]
      · rw [BitVec.getLsbD_of_ge _ i (by omega), BitVec.getLsbD_of_ge _ i (by omega)]
        simp [h8]
    rw [← hw]
    ac_rfl
end Go.Proofs.Ytohdldlagkmcnaa.Own
