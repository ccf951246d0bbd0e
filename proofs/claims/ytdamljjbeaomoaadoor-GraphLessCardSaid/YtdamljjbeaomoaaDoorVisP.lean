/- What a search by depth leaves: plain lemmas over sets of 16 and a graph as a function. -/
import Derived.Test.YtdamljjbeaomoaaDoorEachP
namespace Go.Proofs.YtdamljjbeaomoaaDoor.Own
/-- From a one comes to b, all within a set. -/
inductive Rch (g : Nat → BitVec 16) (W : BitVec 16) : Nat → Nat → Prop
  | refl (a : Nat) (h : has W a = true) : Rch g W a a
  | step (a b c : Nat) (h : Rch g W a b) (he : has (g b) c = true) (hc : has W c = true) : Rch g W a c
/-- What visits from qs, one behind the other, make of 'out'. -/
structure Vis (g : Nat → BitVec 16) (W : BitVec 16) (qs : List Nat) (out out' : BitVec 16) : Prop where
  sub : ∀ i, has out i = true → has out' i = true
  all : ∀ q ∈ qs, has W q = true → has out' q = true
  shut : ∀ a, has out' a = true → has out a = false → ∀ b, has (g a) b = true → has W b = true → has out' b = true
  from_ : ∀ a, has out' a = true → has out a = false → ∃ q ∈ qs, Rch g W q a
theorem Vis.nil (g : Nat → BitVec 16) (W out : BitVec 16) : Vis g W [] out out :=
  ⟨fun _ h => h, fun _ h => (by cases h), fun a h1 h2 => (by rw [h1] at h2; cases h2), fun a h1 h2 => (by rw [h1] at h2; cases h2)⟩
theorem Vis.append {g : Nat → BitVec 16} {W out o1 o2 : BitVec 16} {qs rs : List Nat} (h1 : Vis g W qs out o1) (h2 : Vis g W rs o1 o2) : Vis g W (qs ++ rs) out o2 := by
  refine ⟨fun i h => h2.sub i (h1.sub i h), ?_, ?_, ?_⟩
  · intro q hq hW
    rcases List.mem_append.1 hq with hq | hq
    · exact h2.sub q (h1.all q hq hW)
    · exact h2.all q hq hW
  · intro a ha hn b hb hW
    cases hm : has o1 a with
    | true => exact h2.sub b (h1.shut a hm hn b hb hW)
    | false => exact h2.shut a ha hm b hb hW
  · intro a ha hn
    cases hm : has o1 a with
    | true => obtain ⟨q, hq, hr⟩ := h1.from_ a hm hn; exact ⟨q, List.mem_append_left _ hq, hr⟩
    | false => obtain ⟨q, hq, hr⟩ := h2.from_ a ha hm; exact ⟨q, List.mem_append_right _ hq, hr⟩
theorem Vis.skip {g : Nat → BitVec 16} {W out : BitVec 16} {r : Nat} (h : has W r = false ∨ has out r = true) : Vis g W [r] out out := by
  refine ⟨fun _ h => h, ?_, fun a h1 h2 => (by rw [h1] at h2; cases h2), fun a h1 h2 => (by rw [h1] at h2; cases h2)⟩
  intro q hq hW
  obtain rfl := List.mem_singleton.1 hq
  rcases h with h | h
  · rw [h] at hW; cases hW
  · exact h
theorem has_or (x y : BitVec 16) (i : Nat) : has (x ||| y) i = (has x i || has y i) := by unfold has; rw [BitVec.getLsbD_or]
theorem has_bit (t i : Nat) (h : t < 16) : has (bit t) i = decide (i = t) := bit_has t i h
theorem has_lt {x : BitVec 16} {i : Nat} (h : has x i = true) : i < 16 := by
  apply Classical.byContradiction
  intro hn
  unfold has at h
  rw [BitVec.getLsbD_of_ge x i (by omega)] at h
  cases h
theorem Rch.head {g : Nat → BitVec 16} {W : BitVec 16} {r q a : Nat} (h : Rch g W q a) (hr : has W r = true) (hq : has (g r) q = true) : Rch g W r a := by
  induction h with
  | refl hW => exact .step _ _ _ (.refl _ hr) hq hW
  | step b c _ he hc ih => exact .step _ _ _ ih he hc
theorem mem_elems {x : BitVec 16} {q : Nat} : q ∈ elems x ↔ has x q = true := by
  unfold elems
  rw [List.mem_filter, List.mem_range]
  exact ⟨fun h => h.2, fun h => ⟨has_lt h, h⟩⟩
theorem Vis.node {g : Nat → BitVec 16} {W out out' : BitVec 16} {r : Nat} (hr : r < 16) (hW : has W r = true) (h : Vis g W (elems (g r)) (out ||| bit r) out') : Vis g W [r] out out' := by
  have hor : ∀ i, has (out ||| bit r) i = (has out i || decide (i = r)) := fun i => by rw [has_or, has_bit r i hr]
  refine ⟨fun i hi => h.sub i (by rw [hor, hi]; rfl), ?_, ?_, ?_⟩
  · intro q hq _
    obtain rfl := List.mem_singleton.1 hq
    exact h.sub q (by rw [hor]; simp)
  · intro a ha hn b hb hWb
    by_cases e : a = r
    · subst e; exact h.all b (mem_elems.2 hb) hWb
    · exact h.shut a ha (by rw [hor, hn]; simp [e]) b hb hWb
  · intro a ha hn
    by_cases e : a = r
    · subst e; exact ⟨a, by simp, .refl _ hW⟩
    · obtain ⟨q, hq, hR⟩ := h.from_ a ha (by rw [hor, hn]; simp [e])
      exact ⟨r, by simp, hR.head hW (mem_elems.1 hq)⟩
end Go.Proofs.YtdamljjbeaomoaaDoor.Own
