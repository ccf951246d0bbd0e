/- Layer 17, plain: the law of Right and Begin. -/
import Derived.Test.YtdlfdkdcnabpoaaDoorPaD
namespace Go.Proofs.YtdlfdkdcnabpoaaDoor.Pa
set_option linter.unusedSimpArgs false
set_option linter.unusedVariables false
/-- How many values the first j nodes leave. -/
def Ht (l : List Nd) : Nat → Int
  | 0 => 0
  | j + 1 => Ht l j + 1 - argAt l j
theorem argAt_cons (x : Nd) (l : List Nd) (j : Nat) : argAt (x :: l) (j + 1) = argAt l j := rfl
theorem Ht_cons (x : Nd) (l : List Nd) : ∀ j, Ht (x :: l) (j + 1) = 1 - argsI x.k + Ht l j
  | 0 => by show 0 + 1 - argsI x.k = 1 - argsI x.k + 0; omega
  | j + 1 => by
    have := Ht_cons x l j
    show Ht (x :: l) (j + 1) + 1 - argAt l j = 1 - argsI x.k + (Ht l j + 1 - argAt l j)
    omega
/-- What Right asks. -/
structure Fine (h : Nat) (l : List Nd) : Prop where
  ok : ∀ (j : Nat) (x : Nd), l[j]? = some x → okN x
  le : ∀ j : Nat, j < l.length → argAt l j ≤ h + Ht l j
theorem rf_fine : ∀ (l : List Nd) (h r : Nat), rf h l = some r ↔ Fine h l ∧ (r : Int) = h + Ht l l.length
  | [], h, r => by
    constructor
    · intro e
      cases e
      exact ⟨⟨fun j x hx => by simp at hx, fun j hj => by simp at hj⟩, by show (h : Int) = h + 0; omega⟩
    · rintro ⟨_, e⟩
      have e : (r : Int) = h + 0 := e
      rw [show r = h by omega]
      rfl
  | x :: l, h, r => by
    have hd : rf h (x :: l) = if okN x ∧ (argsI x.k).toNat ≤ h then rf (h + 1 - (argsI x.k).toNat) l else none := rfl
    rw [hd]
    have hH := Ht_cons x l l.length
    constructor
    · intro e
      split at e
      · rename_i hc
        obtain ⟨hF, hv⟩ := (rf_fine l _ r).1 e
        have h0 : 0 ≤ argsI x.k := hc.1.1
        have ht := hc.2
        refine ⟨⟨fun j y hy => ?_, fun j hj => ?_⟩, ?_⟩
        · cases j with
          | zero => cases hy; exact hc.1
          | succ j => exact hF.ok j y hy
        · cases j with
          | zero => show argsI x.k ≤ h + 0; omega
          | succ j =>
            rw [argAt_cons, Ht_cons]
            have := hF.le j (by simpa using hj)
            omega
        · rw [List.length_cons, hH]; omega
      · cases e
    · rintro ⟨hF, hv⟩
      have ho := hF.ok 0 x rfl
      have h0 : 0 ≤ argsI x.k := ho.1
      have hl : argsI x.k ≤ h + 0 := hF.le 0 (by simp)
      rw [if_pos ⟨ho, by omega⟩]
      refine (rf_fine l _ r).2 ⟨⟨fun j y hy => hF.ok (j + 1) y hy, fun j hj => ?_⟩, ?_⟩
      · have := hF.le (j + 1) (by simpa using hj)
        rw [argAt_cons, Ht_cons] at this
        omega
      · rw [List.length_cons, hH] at hv; omega
theorem rightB_iff (l : List Nd) : rightB l = true ↔ Fine 0 l ∧ Ht l l.length = 1 ∧ l.length ≤ 24 := by
  unfold rightB
  rw [Bool.and_eq_true, beq_iff_eq, decide_eq_true_eq, rf_fine]
  constructor
  · rintro ⟨⟨a, b⟩, c⟩; exact ⟨a, by omega, c⟩
  · rintro ⟨a, b, c⟩; exact ⟨⟨a, by omega⟩, c⟩
theorem arg_nonneg {h : Nat} {l : List Nd} (hF : Fine h l) (j : Nat) (hj : j < l.length) : 0 ≤ argAt l j := by
  have := hF.ok j l[j] (List.getElem?_eq_getElem hj)
  unfold argAt
  rw [List.getElem?_eq_getElem hj]
  exact this.1
theorem arg_two (l : List Nd) (j : Nat) : argAt l j ≤ 2 := by
  unfold argAt
  split
  · rename_i x _
    rcases argsI_cases x.k with h | h | h | h <;> omega
  · omega
/-- The last place up to i with so many values. -/
theorem bP_is (l : List Nd) (T : Int) : ∀ (i b : Nat), i < l.length → b ≤ i → Ht l b = T → (∀ m, b < m → m ≤ i → Ht l m ≠ T) → bP l i (Ht l (i + 1) - T) = b
  | 0, b, hi, hb, _, _ => by
    have : b = 0 := by omega
    subst this
    rfl
  | i + 1, b, hi, hb, hT, hn => by
    have hd : ∀ need, bP l (i + 1) need = if i + 1 < l.length then (if need + (argAt l (i + 1) - 1) = 0 then i + 1 else bP l i (need + (argAt l (i + 1) - 1))) else 0 := fun _ => rfl
    have hH : Ht l (i + 1 + 1) = Ht l (i + 1) + 1 - argAt l (i + 1) := rfl
    rw [hd, if_pos hi, hH, show Ht l (i + 1) + 1 - argAt l (i + 1) - T + (argAt l (i + 1) - 1) = Ht l (i + 1) - T by omega]
    by_cases e : Ht l (i + 1) = T
    · rw [if_pos (by omega)]
      refine Decidable.byContradiction fun hne => ?_
      exact hn (i + 1) (by omega) (Nat.le_refl _) e
    · rw [if_neg (by omega)]
      have hb' : b ≤ i := by
        refine Decidable.byContradiction fun hne => ?_
        have : b = i + 1 := by omega
        subst this
        exact e hT
      exact bP_is l T i b (by omega) hb' hT fun m h1 h2 => hn m h1 (by omega)
theorem ht_down {l : List Nd} (hF : Fine 0 l) (T : Int) (hT : 0 ≤ T) : ∀ i, i ≤ l.length → T ≤ Ht l i → ∃ b, b ≤ i ∧ Ht l b = T ∧ ∀ m, b < m → m ≤ i → T < Ht l m
  | 0, _, h => ⟨0, Nat.le_refl _, by have : (Ht l 0) = 0 := rfl; omega, fun m h1 h2 => by omega⟩
  | i + 1, hi, h => by
    by_cases e : Ht l (i + 1) = T
    · exact ⟨i + 1, Nat.le_refl _, e, fun m h1 h2 => by omega⟩
    · have hH : Ht l (i + 1) = Ht l i + 1 - argAt l i := rfl
      have h0 := arg_nonneg hF i (by omega)
      obtain ⟨b, h1, h2, h3⟩ := ht_down hF T hT i (by omega) (by omega)
      refine ⟨b, by omega, h2, fun m k1 k2 => ?_⟩
      by_cases hm : m = i + 1
      · subst hm; omega
      · exact h3 m k1 (by omega)
theorem ht_pos {l : List Nd} (hF : Fine 0 l) (i : Nat) (hi : i < l.length) : 1 ≤ Ht l (i + 1) := by
  have := hF.le i hi
  have hH : Ht l (i + 1) = Ht l i + 1 - argAt l i := rfl
  omega
/-- Where what ends there begins. -/
theorem begin_is {l : List Nd} (hF : Fine 0 l) (i : Nat) (hi : i < l.length) : bP l i 1 ≤ i ∧ Ht l (bP l i 1) = Ht l (i + 1) - 1 ∧ ∀ m, bP l i 1 < m → m ≤ i → Ht l (i + 1) ≤ Ht l m := by
  have hp := ht_pos hF i hi
  have h0 := arg_nonneg hF i hi
  have hH : Ht l (i + 1) = Ht l i + 1 - argAt l i := rfl
  obtain ⟨b, h1, h2, h3⟩ := ht_down hF (Ht l (i + 1) - 1) (by omega) i (by omega) (by omega)
  have hb := bP_is l (Ht l (i + 1) - 1) i b hi h1 h2 fun m k1 k2 => by have := h3 m k1 k2; omega
  rw [show Ht l (i + 1) - (Ht l (i + 1) - 1) = 1 by omega] at hb
  rw [hb]
  exact ⟨h1, h2, fun m k1 k2 => by have := h3 m k1 k2; omega⟩
theorem begin_eq {l : List Nd} (hF : Fine 0 l) (i b : Nat) (hi : i < l.length) (hb : b ≤ i) (h1 : Ht l b = Ht l (i + 1) - 1) (h2 : ∀ m, b < m → m ≤ i → Ht l (i + 1) ≤ Ht l m) : bP l i 1 = b := by
  have := bP_is l (Ht l (i + 1) - 1) i b hi hb h1 fun m k1 k2 => by have := h2 m k1 k2; omega
  rw [show Ht l (i + 1) - (Ht l (i + 1) - 1) = 1 by omega] at this
  exact this
theorem sub_at (l : List Nd) (b i j : Nat) (hj : j < i + 1 - b) : ((l.drop b).take (i + 1 - b))[j]? = l[b + j]? := by
  rw [List.getElem?_take, if_pos hj, List.getElem?_drop]
theorem ht_sub (l : List Nd) (b i : Nat) : ∀ j, j ≤ i + 1 - b → Ht ((l.drop b).take (i + 1 - b)) j = Ht l (b + j) - Ht l b
  | 0, _ => by show (0 : Int) = Ht l (b + 0) - Ht l b; rw [Nat.add_zero]; omega
  | j + 1, hj => by
    have := ht_sub l b i j (by omega)
    show Ht _ j + 1 - argAt _ j = Ht l (b + j) + 1 - argAt l (b + j) - Ht l b
    have ha : argAt ((l.drop b).take (i + 1 - b)) j = argAt l (b + j) := by unfold argAt; rw [sub_at l b i j (by omega)]
    rw [this, ha]
    omega
/-- What ends there is right itself. -/
theorem sub_right {l : List Nd} (hr : rightB l = true) (i : Nat) (hi : i < l.length) : rightB ((l.drop (bP l i 1)).take (i + 1 - bP l i 1)) = true := by
  obtain ⟨hF, _, h24⟩ := (rightB_iff l).1 hr
  obtain ⟨h1, h2, h3⟩ := begin_is hF i hi
  obtain ⟨b, hb⟩ : ∃ b, bP l i 1 = b := ⟨_, rfl⟩
  rw [hb] at h1 h2 h3 ⊢
  have hlen : ((l.drop b).take (i + 1 - b)).length = i + 1 - b := by rw [List.length_take, List.length_drop]; omega
  refine (rightB_iff _).2 ⟨⟨fun j x hx => ?_, fun j hj => ?_⟩, ?_, by rw [hlen]; omega⟩
  · have hj := (List.getElem?_eq_some_iff.1 hx).1
    rw [hlen] at hj
    rw [sub_at l b i j hj] at hx
    exact hF.ok _ x hx
  · rw [hlen] at hj
    rw [ht_sub l b i j (by omega)]
    have ha : argAt ((l.drop b).take (i + 1 - b)) j = argAt l (b + j) := by unfold argAt; rw [sub_at l b i j hj]
    rw [ha]
    have hH : Ht l (b + j + 1) = Ht l (b + j) + 1 - argAt l (b + j) := rfl
    have hm : Ht l (i + 1) ≤ Ht l (b + j + 1) := by
      by_cases e : b + j + 1 ≤ i
      · exact h3 (b + j + 1) (by omega) e
      · rw [show b + j = i by omega]; omega
    omega
  · rw [hlen, ht_sub l b i (i + 1 - b) (Nat.le_refl _), show b + (i + 1 - b) = i + 1 by omega]
    omega
theorem whole_begin {l : List Nd} (hr : rightB l = true) : 1 ≤ l.length ∧ bP l (l.length - 1) 1 = 0 := by
  obtain ⟨hF, h1, h24⟩ := (rightB_iff l).1 hr
  have hl : 1 ≤ l.length := by
    refine Decidable.byContradiction fun hn => ?_
    have : l.length = 0 := by omega
    rw [this] at h1
    have h0 : Ht l 0 = 0 := rfl
    omega
  refine ⟨hl, begin_eq hF (l.length - 1) 0 (by omega) (Nat.zero_le _) ?_ fun m k1 k2 => ?_⟩
  · rw [show l.length - 1 + 1 = l.length by omega, h1]; rfl
  · rw [show l.length - 1 + 1 = l.length by omega, h1]
    have := ht_pos hF (m - 1) (by omega)
    rw [show m - 1 + 1 = m by omega] at this
    exact this
/-- The arguments stand just ahead. -/
theorem args_ahead {l : List Nd} (hr : rightB l = true) (i : Nat) (hi : i < l.length) (ha : 0 < argAt l i) :
    1 ≤ i ∧ bP l i 1 ≤ bP l (i - 1) 1 ∧ bP l (i - 1) 1 ≤ i - 1 ∧ (argAt l i = 1 → bP l (i - 1) 1 = bP l i 1) ∧ (argAt l i = 2 → bP l (i - 1) 1 ≠ bP l i 1 ∧ 1 ≤ bP l (i - 1) 1 ∧ bP l (bP l (i - 1) 1 - 1) 1 = bP l i 1) := by
  obtain ⟨hF, _, h24⟩ := (rightB_iff l).1 hr
  obtain ⟨h1, h2, h3⟩ := begin_is hF i hi
  obtain ⟨b, hb⟩ : ∃ b, bP l i 1 = b := ⟨_, rfl⟩
  rw [hb] at h1 h2 h3 ⊢
  have hH : Ht l (i + 1) = Ht l i + 1 - argAt l i := rfl
  have hle := hF.le i hi
  have h2' := arg_two l i
  have hi1 : 1 ≤ i := by
    refine Decidable.byContradiction fun hn => ?_
    have : i = 0 := by omega
    subst this
    have h0 : Ht l 0 = 0 := rfl
    omega
  have hbi : b ≤ i - 1 := by
    refine Decidable.byContradiction fun hn => ?_
    have : b = i := by omega
    subst this
    omega
  obtain ⟨k1, k2, k3⟩ := begin_is hF (i - 1) (by omega)
  obtain ⟨c, hc⟩ : ∃ c, bP l (i - 1) 1 = c := ⟨_, rfl⟩
  rw [hc] at k1 k2 k3 ⊢
  rw [show i - 1 + 1 = i by omega] at k2 k3
  refine ⟨hi1, ?_, k1, fun e => ?_, fun e => ?_⟩
  · refine Decidable.byContradiction fun hn => ?_
    have := k3 b (by omega) hbi
    omega
  · have := begin_eq hF (i - 1) b (by omega) hbi (by rw [show i - 1 + 1 = i by omega]; omega) fun m q1 q2 => by rw [show i - 1 + 1 = i by omega]; have := h3 m q1 (by omega); omega
    rw [← hc, this]
  · have hb1 : Ht l (b + 1) = Ht l b + 1 - argAt l b := rfl
    have hb2 := arg_nonneg hF b (by omega)
    have hbc : b < c := by
      refine Decidable.byContradiction fun hn => ?_
      have hcb : c ≤ b := by omega
      by_cases hbi' : b + 1 ≤ i - 1
      · have := k3 (b + 1) (by omega) hbi'
        omega
      · have hbe : b + 1 = i := by omega
        rw [hbe] at hb1
        omega
    refine ⟨by omega, by omega, ?_⟩
    have hcc : Ht l (c - 1 + 1) = Ht l c := by rw [show c - 1 + 1 = c by omega]
    exact begin_eq hF (c - 1) b (by omega) (by omega) (by rw [hcc]; omega) fun m q1 q2 => by rw [hcc]; have := h3 m q1 (by omega); omega
end Go.Proofs.YtdlfdkdcnabpoaaDoor.Pa
