/- Parts of queries: plain lemmas: what ends with a node, and its type. -/
import Derived.Test.YtinommcocgnmlaaTyP
namespace Go.Proofs.Ytinommcocgnmlaa.Own
theorem tyT_shift : ∀ (t : Tr) (i j : Int), 0 ≤ i → 0 ≤ j → (tyT i t).1 = (tyT j t).1 ∧ (0 ≤ (tyT i t).2 ↔ 0 ≤ (tyT j t).2)
  | .lf x, i, j, hi, hj => by
    rw [tyT_lf, tyT_lf]
    by_cases h : nodeT x.k [] = 0
    · rw [if_pos h, if_pos h]; exact ⟨rfl, by simp [hi, hj]⟩
    · rw [if_neg h, if_neg h]; exact ⟨rfl, by simp⟩
  | .un x a, i, j, hi, hj => by
    obtain ⟨h1, h2⟩ := tyT_shift a i j hi hj
    rw [tyT_un, tyT_un, h1]
    by_cases e : 0 ≤ (tyT i a).2
    · rw [if_pos e, if_pos (h2.1 e)]; exact ⟨rfl, by simp [e, h2.1 e]⟩
    · rw [if_neg e, if_neg (fun q => e (h2.2 q))]
      by_cases h : nodeT x.k [(tyT j a).1] = 0
      · rw [if_pos h, if_pos h]; exact ⟨rfl, by simp; omega⟩
      · rw [if_neg h, if_neg h]; exact ⟨rfl, by simp⟩
  | .bi x a b, i, j, hi, hj => by
    obtain ⟨h1, h2⟩ := tyT_shift a i j hi hj
    obtain ⟨h3, h4⟩ := tyT_shift b (i + a.post.length) (j + a.post.length) (by omega) (by omega)
    rw [tyT_bi, tyT_bi, h1, h3]
    by_cases e : 0 ≤ (tyT i a).2
    · rw [if_pos e, if_pos (h2.1 e)]; exact ⟨rfl, by simp [e, h2.1 e]⟩
    · rw [if_neg e, if_neg (fun q => e (h2.2 q))]
      by_cases e1 : 0 ≤ (tyT (i + a.post.length) b).2
      · rw [if_pos e1, if_pos (h4.1 e1)]; exact ⟨rfl, by simp [e1, h4.1 e1]⟩
      · rw [if_neg e1, if_neg (fun q => e1 (h4.2 q))]
        by_cases h : nodeT x.k [(tyT j a).1, (tyT (j + a.post.length) b).1] = 0
        · rw [if_pos h, if_pos h]; exact ⟨rfl, by simp; omega⟩
        · rw [if_neg h, if_neg h]; exact ⟨rfl, by simp⟩
/-- Has a tree a type? -/
def typed (t : Tr) : Prop := ¬ 0 ≤ (tyT 0 t).2
theorem typed_un {x : Nd} {a : Tr} (h : typed (.un x a)) : typed a := by
  unfold typed at *
  intro e
  rw [tyT_un, if_pos e] at h
  exact h e
theorem typed_bi {x : Nd} {a b : Tr} (h : typed (.bi x a b)) : typed a ∧ typed b := by
  unfold typed at *
  have h1 : ¬ 0 ≤ (tyT 0 a).2 := by
    intro e
    rw [tyT_bi, if_pos e] at h
    exact h e
  refine ⟨h1, fun e => ?_⟩
  have e' := (tyT_shift b 0 (0 + a.post.length) (by omega) (by omega)).2.1 e
  rw [tyT_bi, if_neg h1, if_pos e'] at h
  exact h e'
/-- What ends with any node of a tree. -/
theorem ends : ∀ (T : Tr), T.ok → ∀ (i : Nat), i < T.post.length → ∃ (pre : List Nd) (t : Tr), T.post.take (i + 1) = pre ++ t.post ∧ t.ok ∧ (typed T → typed t)
  | .lf x, h, i, hi => by
    have : i = 0 := by simp [Tr.post] at hi; omega
    subst this
    exact ⟨[], .lf x, by simp [Tr.post], h, id⟩
  | .un x a, h, i, hi => by
    simp only [Tr.post, List.length_append, List.length_cons, List.length_nil] at hi
    by_cases e : i < a.post.length
    · obtain ⟨pre, t, h1, h2, h3⟩ := ends a h.2 i e
      exact ⟨pre, t, by simp only [Tr.post]; rw [List.take_append_of_le_length (by omega)]; exact h1, h2, fun q => h3 (typed_un q)⟩
    · exact ⟨[], .un x a, by rw [List.take_of_length_le (by simp [Tr.post]; omega)]; rfl, h, id⟩
  | .bi x a b, h, i, hi => by
    simp only [Tr.post, List.length_append, List.length_cons, List.length_nil] at hi
    by_cases e : i < a.post.length
    · obtain ⟨pre, t, h1, h2, h3⟩ := ends a h.2.1 i e
      exact ⟨pre, t, by simp only [Tr.post]; rw [List.take_append_of_le_length (by omega)]; exact h1, h2, fun q => h3 (typed_bi q).1⟩
    · by_cases e1 : i < a.post.length + b.post.length
      · obtain ⟨pre, t, h1, h2, h3⟩ := ends b h.2.2 (i - a.post.length) (by omega)
        refine ⟨a.post ++ pre, t, ?_, h2, fun q => h3 (typed_bi q).2⟩
        simp only [Tr.post]
        rw [List.take_append, List.take_of_length_le (by omega), show i + 1 - a.post.length = i - a.post.length + 1 by omega, List.take_append_of_le_length (by omega), h1, List.append_assoc]
      · exact ⟨[], .bi x a b, by rw [List.take_of_length_le (by simp [Tr.post]; omega)]; rfl, h, id⟩
/-- Nodes read from the end, until as many are had as are needed. -/
def bs (n : Int) : List Nd → Option (List Nd)
  | [] => none
  | x :: r => if n + (ar x.k - 1) = 0 then some r else bs (n + (ar x.k - 1)) r
theorem bs_cons (n : Int) (x : Nd) (r : List Nd) : bs n (x :: r) = if n + (ar x.k - 1) = 0 then some r else bs (n + (ar x.k - 1)) r := rfl
theorem bs_post : ∀ (t : Tr), t.ok → ∀ (n : Int) (r : List Nd), 1 ≤ n → bs n (t.post.reverse ++ r) = if n = 1 then some r else bs (n - 1) r
  | .lf x, h, n, r, hn => by
    simp only [Tr.post, List.reverse_cons, List.reverse_nil, List.nil_append, List.cons_append]
    rw [bs_cons, show ar x.k = 0 from h]
    by_cases e : n = 1
    · rw [if_pos (by omega), if_pos e]
    · rw [if_neg (by omega), if_neg e]; congr 1
  | .un x a, h, n, r, hn => by
    simp only [Tr.post, List.reverse_append, List.reverse_cons, List.reverse_nil, List.nil_append, List.cons_append]
    rw [bs_cons, h.1, if_neg (by omega), show n + (1 - 1) = n by omega]
    exact bs_post a h.2 n r hn
  | .bi x a b, h, n, r, hn => by
    simp only [Tr.post, List.reverse_append, List.reverse_cons, List.reverse_nil, List.nil_append, List.cons_append, List.append_assoc]
    rw [bs_cons, h.1, if_neg (by omega), bs_post b h.2.2 _ _ (by omega), if_neg (by omega), show n + (2 - 1) - 1 = n by omega]
    exact bs_post a h.2.1 n r hn
theorem bs_begin (t : Tr) (ht : t.ok) (pre : List Nd) : bs 1 (pre ++ t.post).reverse = some pre.reverse := by
  rw [List.reverse_append, bs_post t ht 1 _ (by omega), if_pos rfl]
theorem okN_sub {T : List Nd} (h : ∀ x ∈ T, okN x = true) {t : List Nd} (hs : ∀ x ∈ t, x ∈ T) : ∀ x ∈ t, okN x = true := fun x hx => h x (hs x hx)
/-- A part's type. -/
theorem typeL_part (t : Tr) (ht : t.ok) (ho : ∀ x ∈ t.post, okN x = true) (hl : t.post.length ≤ 24) :
    ((typeL t.post).2.2 = 0 ∧ 1 ≤ (typeL t.post).1 ∧ (typeL t.post).1 ≤ 4 ∧ typed t) ∨ ((typeL t.post).2.2 = 16 ∧ (typeL t.post).1 = 0 ∧ ¬ typed t) := by
  rw [typeL_tree t ht ((right_tree _).2 ⟨t, ht, rfl, ho, hl⟩)]
  rcases tyT_bad t 0 (by omega) with ⟨h1, h2, _⟩ | ⟨h1, h2, h3⟩
  · rw [if_pos h1]; exact .inr ⟨rfl, rfl, fun q => q h1⟩
  · rw [if_neg (by omega)]; exact .inl ⟨rfl, h2, h3, fun q => by omega⟩
/-- A tree's last node, and the child right ahead of it. -/
theorem last_child : ∀ (t : Tr), t.ok → ∃ (b : List Nd) (x : Nd), t.post = b ++ [x] ∧ (ar x.k = 0 ∨ (0 < ar x.k ∧ ∃ (p : List Nd) (c : Tr), b = p ++ c.post ∧ c.ok ∧ (typed t → typed c)))
  | .lf x, h => ⟨[], x, rfl, .inl h⟩
  | .un x a, h => ⟨a.post, x, rfl, .inr ⟨by rw [h.1]; decide, [], a, rfl, h.2, typed_un⟩⟩
  | .bi x a b, h => ⟨a.post ++ b.post, x, by simp [Tr.post], .inr ⟨by rw [h.1]; decide, a.post, b, rfl, h.2.2, fun q => (typed_bi q).2⟩⟩
end Go.Proofs.Ytinommcocgnmlaa.Own
