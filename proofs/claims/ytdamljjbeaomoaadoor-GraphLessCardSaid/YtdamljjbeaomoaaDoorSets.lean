/- Sets of 16 tags as numbers of 16 bits: plain lemmas, no program in sight. -/
import Derived.Laws.BitsAllLaws
import Derived.Laws.Wrap64
import Derived.IntWalk
namespace Go.Proofs.YtdamljjbeaomoaaDoor.Own
/-- A set of tags as the number that it is. -/
def nH (x : BitVec 16) : Int := x.toNat
theorem u16_lo (x : BitVec 16) : 0 ≤ nH x := Int.natCast_nonneg _
theorem u16_hi (x : BitVec 16) : nH x < 65536 := by have := x.isLt; unfold nH; omega
theorem u16_inj {x y : BitVec 16} (h : nH x = nH y) : x = y := BitVec.eq_of_toNat_eq (by unfold nH at h; omega)
theorem u16_eq (x y : BitVec 16) : (nH x == nH y) = (x == y) := by
  by_cases h : x = y
  · subst h; simp
  · rw [beq_eq_false_iff_ne.2 h, beq_eq_false_iff_ne.2 (fun e => h (u16_inj e))]
theorem u16_of (a : Int) (h : (Lit.int .u16 a).wf = true) : ∃ x, a = nH x := by
  have h0 : 0 ≤ a ∧ a < 65536 := by
    simp [Lit.wf, IntKind.min, IntKind.max, IntKind.bits, IntKind.signed] at h
    omega
  refine ⟨BitVec.ofNat 16 a.toNat, ?_⟩
  unfold nH
  simp
  omega
theorem b16_and (x y : BitVec 16) : bits .and .u16 (nH x) (nH y) = nH (x &&& y) := by
  unfold nH; rw [u16_and_nat _ _ x.isLt y.isLt, BitVec.toNat_and]
theorem b16_or (x y : BitVec 16) : bits .or .u16 (nH x) (nH y) = nH (x ||| y) := by
  unfold nH; rw [u16_or_nat _ _ x.isLt y.isLt, BitVec.toNat_or]
theorem b16_andNot (x y : BitVec 16) : bits .andNot .u16 (nH x) (nH y) = nH (x &&& ~~~y) := by
  unfold nH; rw [u16_andNot_nat _ _ x.isLt y.isLt, BitVec.toNat_and, BitVec.toNat_not]
theorem b16_zero (x : BitVec 16) : (nH x == 0) = (x == 0#16) := u16_eq x 0#16
/-- One tag. -/
def bit (t : Nat) : BitVec 16 := BitVec.twoPow 16 t
/-- Is a tag in a set? -/
def has (s : BitVec 16) (t : Nat) : Bool := s.getLsbD t
theorem bit_has (t i : Nat) (h : t < 16) : (bit t).getLsbD i = decide (i = t) := by
  unfold bit; rw [BitVec.getLsbD_twoPow]; by_cases e : i = t
  · subst e; simp [h]
  · simp [e, Ne.symm e]
theorem with_has (s : BitVec 16) (t : Nat) (h : has s t = true) : s ||| bit t = s := by
  unfold has at h
  apply BitVec.eq_of_getLsbD_eq
  intro i hi
  unfold bit
  rw [BitVec.getLsbD_or, BitVec.getLsbD_twoPow]
  by_cases e : t = i
  · subst e; simp [h]
  · simp [e]
theorem with_add (s : BitVec 16) (t : Nat) (ht : t < 16) (h : has s t = false) : IntKind.u16.wrap (nH s + ((2 ^ t : Nat) : Int)) = nH (s ||| bit t) := by
  unfold has at h
  have e : s &&& bit t = 0#16 := by
    apply BitVec.eq_of_getLsbD_eq
    intro i hi
    unfold bit
    rw [BitVec.getLsbD_and, BitVec.getLsbD_twoPow]
    by_cases e : t = i
    · subst e; simp [h]
    · simp [e]
  rw [← BitVec.add_eq_or_of_and_eq_zero _ _ e, IntKind.wrap_u16]
  unfold nH bit
  rw [BitVec.toNat_add, BitVec.toNat_twoPow]
  have h2 : 2 ^ t < 65536 := Nat.pow_lt_pow_right (by decide : 1 < 2) ht
  rw [Nat.mod_eq_of_lt h2]
  omega
/-- The tags below k. -/
def upto (x : BitVec 16) : Nat → BitVec 16
  | 0 => 0#16
  | k + 1 => if x.getLsbD k = true then upto x k ||| bit k else upto x k
theorem upto_has (x : BitVec 16) : ∀ k, k ≤ 16 → ∀ i, (upto x k).getLsbD i = (decide (i < k) && x.getLsbD i)
  | 0, _, i => by simp [upto]
  | k + 1, hk, i => by
    have ih := upto_has x k (by omega) i
    unfold upto
    split
    · rename_i h
      rw [BitVec.getLsbD_or, ih, bit_has k i (by omega)]
      by_cases e : i = k
      · subst e; simp [h]
      · have : (i < k + 1) = (i < k) := by simp; omega
        simp [e, this]
    · rename_i h
      rw [ih]
      by_cases e : i = k
      · subst e; simp [h]
      · have : (i < k + 1) = (i < k) := by simp; omega
        simp [this]
theorem upto_all (x : BitVec 16) : upto x 16 = x := by
  apply BitVec.eq_of_getLsbD_eq
  intro i hi
  rw [upto_has x 16 (Nat.le_refl _)]
  simp [hi]
theorem upto_yes {x : BitVec 16} {k : Nat} (h : has x k = true) : upto x (k + 1) = upto x k ||| bit k := by unfold has at h; rw [upto, if_pos h]
theorem upto_no {x : BitVec 16} {k : Nat} (h : has x k = false) : upto x (k + 1) = upto x k := by unfold has at h; rw [upto, if_neg (by rw [h]; decide)]
/-- Halving, k times. -/
def hv (s : BitVec 16) (k : Nat) : Int := ((s.toNat / 2 ^ k : Nat) : Int)
theorem hv_zero (s : BitVec 16) : nH s = hv s 0 := by simp [hv, nH]
theorem hv_succ (s : BitVec 16) (k : Nat) : hv s (k + 1) = hv s k / 2 := by
  unfold hv; rw [Nat.pow_succ, ← Nat.div_div_eq_div_mul]; omega
theorem hv_lo (s : BitVec 16) (k : Nat) : 0 ≤ hv s k := Int.natCast_nonneg _
theorem hv_hi (s : BitVec 16) (k : Nat) : hv s k < 65536 := by
  have h1 := s.isLt
  have h2 := Nat.div_le_self s.toNat (2 ^ k)
  unfold hv; omega
theorem hv_next (s : BitVec 16) (k : Nat) : hv s (k + 1) = IntKind.u16.wrap ((hv s k).tdiv 2) := by
  have h1 := hv_lo s k
  have h2 := hv_hi s k
  rw [hv_succ, IntKind.wrap_u16, Int.tdiv_eq_ediv_of_nonneg h1]
  omega
theorem hv_bit (s : BitVec 16) (k : Nat) : (hv s k % 2 == 1) = has s k := by
  unfold has
  rw [← BitVec.testBit_toNat, Nat.testBit_eq_decide_div_mod_eq]
  unfold hv
  generalize s.toNat / 2 ^ k = z
  by_cases h : z % 2 = 1
  · rw [beq_iff_eq.2 (by omega), decide_eq_true h]
  · rw [beq_eq_false_iff_ne.2 (by omega), decide_eq_false h]
/-- Two, k times. -/
def pw (k : Nat) : Int := ((2 ^ k : Nat) : Int)
theorem pw_zero : pw 0 = 1 := rfl
theorem pw_succ (k : Nat) : pw (k + 1) = pw k * 2 := by unfold pw; rw [Nat.pow_succ]; omega
theorem pw_lo (k : Nat) : 0 ≤ pw k := Int.natCast_nonneg _
theorem pw_hi (k : Nat) (h : k < 16) : pw k ≤ 32768 := by
  have : 2 ^ k ≤ 2 ^ 15 := Nat.pow_le_pow_right (by decide) (by omega)
  unfold pw; omega
theorem with_pw (s : BitVec 16) (t : Nat) (ht : t < 16) (h : has s t = false) : IntKind.u16.wrap (nH s + pw t) = nH (s ||| bit t) := with_add s t ht h
theorem less_zero (a b : BitVec 16) (h : ∀ j, j < 16 → has a j = true → has b j = true) : (a &&& ~~~b == 0#16) = true := by
  rw [beq_iff_eq]
  apply BitVec.eq_of_getLsbD_eq
  intro i hi
  have := h i hi
  unfold has at this
  cases h1 : a.getLsbD i <;> cases h2 : b.getLsbD i <;> simp_all
theorem less_some (a b : BitVec 16) (j : Nat) (hj : j < 16) (h1 : has a j = true) (h2 : has b j = false) : (a &&& ~~~b == 0#16) = false := by
  rw [beq_eq_false_iff_ne]
  intro e
  unfold has at h1 h2
  have h := congrArg (fun x : BitVec 16 => x.getLsbD j) e
  simp only [BitVec.getLsbD_and, BitVec.getLsbD_not, h1, h2, hj] at h
  simp at h
theorem has_less (a b : BitVec 16) (j : Nat) (hj : j < 16) : has (a &&& ~~~b) j = (has a j && !has b j) := by
  unfold has
  rw [BitVec.getLsbD_and, BitVec.getLsbD_not]
  simp [hj]
theorem pw_next (k : Nat) (h : k + 1 < 16) : pw (k + 1) = IntKind.u16.wrap (pw k * 2) := by
  have h1 := pw_lo k
  have h2 := pw_hi (k + 1) h
  rw [pw_succ] at h2
  rw [pw_succ, IntKind.wrap_u16]
  omega
theorem and_less (a b : BitVec 16) : a &&& ~~~(a &&& ~~~b) = a &&& b := by
  apply BitVec.eq_of_getLsbD_eq
  intro i hi
  simp only [BitVec.getLsbD_and, BitVec.getLsbD_not, hi]
  cases a.getLsbD i <;> cases b.getLsbD i <;> rfl
theorem less_step {a b : BitVec 16} {k : Nat} (h : ∀ j, j < k → (has a j && !has b j) = false) (hk : (has a k && !has b k) = false) : ∀ j, j < k + 1 → (has a j && !has b j) = false := by
  intro j hj
  by_cases e : j = k
  · subst e; exact hk
  · exact h j (by omega)
theorem less_none (a b : BitVec 16) (h : ∀ j, j < 16 → (has a j && !has b j) = false) : (a &&& ~~~b == 0#16) = true :=
  less_zero a b fun j hj ha => by
    have := h j hj
    rw [ha] at this
    simpa using this
end Go.Proofs.YtdamljjbeaomoaaDoor.Own
