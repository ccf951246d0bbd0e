/- What the printed functions of layers 17 and 18 come to. -/
import Derived.Test.YtinommcocgnmlaaPTypingTypesx
import Derived.Test.YtinommcocgnmlaaTyP
namespace Go.Proofs.Ytinommcocgnmlaa.PTypingTypes
open Go.RowKit Go.Proofs.YtinommcocgnmlaaW.PrintWords Go.Proofs.YtinommcocgnmlaaW.PrintLast Go.Proofs.YtinommcocgnmlaaW.PrintMore
open _root_.Go.Proofs.Ytinommcocgnmlaa.Own
set_option linter.unusedVariables false
set_option linter.unusedSimpArgs false
theorem succ_of {k n : Nat} (h : n < k) : ∃ m, k = m + 1 ∧ n ≤ m := ⟨k - 1, by omega, by omega⟩
theorem args_eq {k : Nat} (hk : 2 ≤ k) (a : Int) : parse_Args.f k a = some (ar a) := by
  obtain ⟨m, rfl⟩ : ∃ m, k = m + 2 := ⟨k - 2, by omega⟩
  unfold parse_Args.f ar
  simp only [parse_Args.j0, parse_Args.j1]
  rcases ar_cases a with ⟨_, h⟩ | ⟨_, h⟩ | ⟨_, h⟩ | ⟨_, h⟩
  · simp [h]
  · rw [if_pos (by omega)]; simp; repeat (first | rw [if_pos (by omega)] | rw [if_neg (by omega)])
  · rw [if_pos (by omega)]; simp; repeat (first | rw [if_pos (by omega)] | rw [if_neg (by omega)])
  · by_cases h1 : a ≥ 1
    · rw [if_pos h1]; simp; repeat (first | rw [if_pos (by omega)] | rw [if_neg (by omega)])
    · rw [if_neg h1]; simp; repeat (first | rw [if_pos (by omega)] | rw [if_neg (by omega)])
theorem rargs_eq (a : Int) : forepeakref17_Args.f a = some (ar a) := by
  unfold forepeakref17_Args.f
  by_cases h1 : a < 1
  · rw [if_pos h1]; unfold ar; repeat (first | rw [if_pos (by omega)] | rw [if_neg (by omega)])
  · rw [if_neg h1]
    by_cases h2 : a > 15
    · rw [if_pos h2]; unfold ar; repeat (first | rw [if_pos (by omega)] | rw [if_neg (by omega)])
    · rw [if_neg h2]
      obtain rfl | rfl | rfl | rfl | rfl | rfl | rfl | rfl | rfl | rfl | rfl | rfl | rfl | rfl | rfl : a = 1 ∨ a = 2 ∨ a = 3 ∨ a = 4 ∨ a = 5 ∨ a = 6 ∨ a = 7 ∨ a = 8 ∨ a = 9 ∨ a = 10 ∨ a = 11 ∨ a = 12 ∨ a = 13 ∨ a = 14 ∨ a = 15 := by omega
      all_goals rfl
theorem leaf_eq {k : Nat} (hk : 1 ≤ k) (a : Int) : typing_leaf.f k a = some (leafT a) := by
  obtain ⟨m, rfl⟩ : ∃ m, k = m + 1 := ⟨k - 1, by omega⟩
  unfold typing_leaf.f leafT
  simp only [typing_leaf.j0]
  by_cases h1 : a = 1
  · simp [h1]
  · by_cases h2 : a = 3
    · simp [h2]
    · by_cases h3 : a = 4
      · simp [h3]
      · simp [h1, h2, h3]
        repeat' split <;> simp_all
theorem set_eq (a : Int) : typing_set.f a = some (setT a) := by
  unfold typing_set.f setT
  by_cases h : a = 1
  · simp [h]
  · simp [h]; by_cases h2 : a = 2 <;> simp [h2]
theorem one_eq {k : Nat} (hk : 4 ≤ k) (x a : Int) : typing_one.f k x a = some (oneT x a) := by
  obtain ⟨m, rfl⟩ : ∃ m, k = m + 4 := ⟨k - 4, by omega⟩
  unfold typing_one.f oneT
  simp only [typing_one.j0, typing_one.j1, typing_one.j2, typing_one.j3, set_eq, Option.bind_some]
  by_cases h6 : x = 6
  · subst h6; by_cases h : a = 1 <;> simp [h]
  · by_cases h7 : x = 7
    · subst h7; by_cases h : a = 1 <;> simp [h]
    · by_cases h9 : x = 9
      · subst h9; by_cases h : a = 2 <;> simp [h]
      · by_cases h8 : x = 8
        · subst h8; by_cases h : a = 1 <;> simp [h]
        · by_cases h10 : x = 10
          · subst h10; cases h : setT a <;> simp [h]
          · by_cases h11 : x = 11
            · subst h11; cases h : setT a <;> simp [h]
            · simp [h6, h7, h8, h9, h10, h11]
theorem two_eq {k : Nat} (hk : 1 ≤ k) (x a b : Int) : typing_two.f k x a b = some (twoT x a b) := by
  obtain ⟨m, rfl⟩ : ∃ m, k = m + 1 := ⟨k - 1, by omega⟩
  unfold typing_two.f twoT
  simp only [typing_two.j0, set_eq, Option.bind_some]
  by_cases h : a = b
  · subst h; cases h2 : setT a <;> simp [h2]; split <;> rfl
  · simp [h]
theorem node_eq {k : Nat} (hk : 4 ≤ k) (x : Int) (l : List Int) : typing_Node.f k x l = some (nodeT x l, decide (0 < nodeT x l)) := by
  unfold typing_Node.f
  rw [args_eq (by omega), Option.bind_some]
  rcases ar_cases x with ⟨e, _⟩ | ⟨e, _⟩ | ⟨e, _⟩ | ⟨e, _⟩
  all_goals
    match l with
    | [] => simp [e, nodeT, leaf_eq (show 1 ≤ k by omega)]
    | [a] => simp [e, nodeT, one_eq hk, rd]
    | [a, b] => simp [e, nodeT, two_eq (show 1 ≤ k by omega), rd]
    | a :: b :: c :: l => simp [e, nodeT]; omega
end Go.Proofs.Ytinommcocgnmlaa.PTypingTypes
