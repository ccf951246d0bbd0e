/- A set's tags in rising order: plain lemmas. -/
import Derived.Test.YtdamljjbeaomoaaDoorSets
namespace Go.Proofs.YtdamljjbeaomoaaDoor.Own
/-- The tags of a set, rising. -/
def elems (s : BitVec 16) : List Nat := (List.range 16).filter (has s ·)
/-- A set without its least tag. -/
def less1 (s : BitVec 16) : BitVec 16 := s &&& (s - 1#16)
/-- t is the least tag. -/
structure Least (x : BitVec 16) (t : Nat) : Prop where
  lt : t < 16
  is : x.getLsbD t = true
  no : ∀ i, i < t → x.getLsbD i = false
theorem least_ex (x : BitVec 16) (h : x ≠ 0#16) : ∃ t, Least x t := by
  have hex : ∃ t, x.getLsbD t = true := by
    apply Classical.byContradiction
    intro hn
    apply h
    apply BitVec.eq_of_getLsbD_eq
    intro i _
    cases hb : x.getLsbD i
    · simp
    · exact absurd ⟨i, hb⟩ hn
  obtain ⟨t0, ht0⟩ := hex
  have : ∀ n, (∃ t, t ≤ n ∧ x.getLsbD t = true) → ∃ t, Least x t := by
    intro n
    induction n with
    | zero =>
      rintro ⟨t, ht, hb⟩
      obtain rfl : t = 0 := by omega
      exact ⟨0, by omega, hb, fun i hi => by omega⟩
    | succ n ih =>
      rintro ⟨t, ht, hb⟩
      by_cases hlt : ∃ t', t' ≤ n ∧ x.getLsbD t' = true
      · exact ih hlt
      · refine ⟨t, ?_, hb, ?_⟩
        · apply Classical.byContradiction
          intro hge
          rw [BitVec.getLsbD_of_ge x t (by omega)] at hb
          cases hb
        · intro i hi
          cases hi' : x.getLsbD i
          · rfl
          · exact absurd ⟨i, by omega, hi'⟩ hlt
  exact this t0 ⟨t0, Nat.le_refl _, ht0⟩
theorem Least.form {x : BitVec 16} {t : Nat} (h : Least x t) : x.toNat = 2 ^ (t + 1) * (x.toNat / 2 ^ (t + 1)) + 2 ^ t := by
  have hm : x.toNat % 2 ^ (t + 1) = 2 ^ t := by
    apply Nat.eq_of_testBit_eq
    intro i
    rw [Nat.testBit_mod_two_pow, Nat.testBit_two_pow]
    by_cases h1 : i < t
    · have := h.no i h1
      simp [show i < t + 1 by omega, show t ≠ i by omega]
      exact this
    · by_cases h2 : i = t
      · subst h2
        have := h.is
        simp
        exact this
      · simp [show ¬ i < t + 1 by omega, show t ≠ i by omega]
  have := Nat.div_add_mod x.toNat (2 ^ (t + 1))
  omega
theorem Least.pred {x : BitVec 16} {t : Nat} (h : Least x t) (i : Nat) : (x - 1#16).getLsbD i = (if i < t then true else if i = t then false else x.getLsbD i) := by
  have hf := h.form
  have hp : 0 < 2 ^ t := Nat.two_pow_pos t
  have h2 : 2 ^ (t + 1) = 2 * 2 ^ t := by rw [Nat.pow_succ]; omega
  have hx := x.isLt
  have hsub : (x - 1#16).toNat = 2 ^ (t + 1) * (x.toNat / 2 ^ (t + 1)) + (2 ^ t - 1) := by
    rw [BitVec.toNat_sub]
    simp
    omega
  have e1 : (x - 1#16).getLsbD i = (x - 1#16).toNat.testBit i := rfl
  have e2 : x.getLsbD i = x.toNat.testBit i := rfl
  rw [e1, hsub, Nat.testBit_two_pow_mul_add _ (by omega), Nat.testBit_two_pow_sub_one]
  by_cases h1 : i < t
  · simp [h1, show i < t + 1 by omega]
  · by_cases h3 : i = t
    · subst h3; simp
    · simp only [h1, h3, if_false, show ¬ i < t + 1 by omega]
      rw [e2]
      conv => rhs; rw [hf]
      rw [Nat.testBit_two_pow_mul_add _ (by omega)]
      simp [show ¬ i < t + 1 by omega]
theorem Least.less1 {x : BitVec 16} {t : Nat} (h : Least x t) (i : Nat) : has (less1 x) i = (has x i && decide (i ≠ t)) := by
  unfold has Own.less1
  rw [BitVec.getLsbD_and, h.pred i]
  by_cases h1 : i < t
  · simp [h.no i h1]
  · by_cases h2 : i = t
    · simp [h2]
    · simp [h1, h2]
theorem Least.one {x : BitVec 16} {t : Nat} (h : Least x t) : x &&& (0#16 - x) = bit t := by
  have hx := x.isLt
  have h0 : x.toNat ≠ 0 := by
    intro h0
    have h1 := h.is
    have : x = 0#16 := BitVec.eq_of_toNat_eq h0
    rw [this] at h1
    simp at h1
  have e : 0#16 - x = ~~~(x - 1#16) := by
    apply BitVec.eq_of_toNat_eq
    rw [BitVec.toNat_not, BitVec.toNat_sub, BitVec.toNat_sub]
    simp
    omega
  rw [e]
  apply BitVec.eq_of_getLsbD_eq
  intro i hi
  rw [BitVec.getLsbD_and, BitVec.getLsbD_not, h.pred i, bit_has t i h.lt]
  by_cases h1 : i < t
  · simp [h.no i h1, show i ≠ t by omega]
  · by_cases h2 : i = t
    · subst h2; simp [h.is, hi]
    · simp [h1, h2]
      exact fun a _ => a
theorem elems_cons {x : BitVec 16} {t : Nat} (h : Least x t) : elems x = t :: elems (Own.less1 x) := by
  have hr : List.range 16 = List.range' 0 t ++ t :: List.range' (t + 1) (15 - t) := by
    have ht := h.lt
    rw [List.range_eq_range', ← List.range'_succ, show 15 - t + 1 = 16 - t by omega]
    have := List.range'_append (s := 0) (m := t) (n := 16 - t) (step := 1)
    simp only [Nat.one_mul, Nat.zero_add] at this
    rw [this, show t + (16 - t) = 16 by omega]
  unfold elems
  rw [hr, List.filter_append, List.filter_append, List.filter_cons, List.filter_cons]
  have e1 : List.filter (has x ·) (List.range' 0 t) = [] := by
    rw [List.filter_eq_nil_iff]
    intro i hi
    have := List.mem_range'_1.1 hi
    simp [has, h.no i (by omega)]
  have e2 : List.filter (has (Own.less1 x) ·) (List.range' 0 t) = [] := by
    rw [List.filter_eq_nil_iff]
    intro i hi
    have := List.mem_range'_1.1 hi
    rw [h.less1 i]
    simp [has, h.no i (by omega)]
  have e3 : List.filter (has x ·) (List.range' (t + 1) (15 - t)) = List.filter (has (Own.less1 x) ·) (List.range' (t + 1) (15 - t)) := by
    apply List.filter_congr
    intro i hi
    have := List.mem_range'_1.1 hi
    simp [h.less1 i, show i ≠ t by omega]
  have e4 : has x t = true := h.is
  have e5 : has (Own.less1 x) t = false := by rw [h.less1 t]; simp
  rw [e1, e2, e3, e4, e5]
  simp
theorem elems_zero : elems 0#16 = [] := by decide
end Go.Proofs.YtdamljjbeaomoaaDoor.Own
