/- Nodes one behind the other, behind their arguments: plain lemmas on lists and trees (no program in sight). -/
import Derived.IntWalk
namespace Go.Proofs.Ytinommcocgnmlaa.Own
/-- A node: its kind, its number. -/
structure Nd where
  k : Int
  n : Int
deriving DecidableEq
/-- How many arguments. -/
def ar (k : Int) : Int := if 1 ≤ k ∧ k ≤ 5 then 0 else if 6 ≤ k ∧ k ≤ 11 then 1 else if 12 ≤ k ∧ k ≤ 15 then 2 else -1
theorem ar_cases (k : Int) : (ar k = 0 ∧ 1 ≤ k ∧ k ≤ 5) ∨ (ar k = 1 ∧ 6 ≤ k ∧ k ≤ 11) ∨ (ar k = 2 ∧ 12 ≤ k ∧ k ≤ 15) ∨ (ar k = -1 ∧ (k < 1 ∨ 15 < k)) := by
  unfold ar
  by_cases h1 : 1 ≤ k ∧ k ≤ 5
  · rw [if_pos h1]; exact .inl ⟨rfl, h1⟩
  · rw [if_neg h1]
    by_cases h2 : 6 ≤ k ∧ k ≤ 11
    · rw [if_pos h2]; exact .inr (.inl ⟨rfl, h2⟩)
    · rw [if_neg h2]
      by_cases h3 : 12 ≤ k ∧ k ≤ 15
      · rw [if_pos h3]; exact .inr (.inr (.inl ⟨rfl, h3⟩))
      · rw [if_neg h3]; exact .inr (.inr (.inr ⟨rfl, by omega⟩))
/-- Does a node bear a number that it may? -/
def okN (x : Nd) : Bool := decide (0 ≤ x.n) && decide (x.n ≤ 15) && (decide (x.n ≤ 0) || decide (x.k = 4) || decide (x.k = 5))
inductive Tr
  | lf (x : Nd)
  | un (x : Nd) (a : Tr)
  | bi (x : Nd) (a b : Tr)
def Tr.post : Tr → List Nd
  | .lf x => [x]
  | .un x a => a.post ++ [x]
  | .bi x a b => a.post ++ (b.post ++ [x])
def Tr.ok : Tr → Prop
  | .lf x => ar x.k = 0
  | .un x a => ar x.k = 1 ∧ a.ok
  | .bi x a b => ar x.k = 2 ∧ a.ok ∧ b.ok
theorem Tr.post_pos : ∀ t : Tr, 0 < t.post.length
  | .lf _ => by simp [Tr.post]
  | .un _ _ => by simp [Tr.post]
  | .bi _ _ _ => by simp [Tr.post]; omega
theorem Tr.post_ne (t : Tr) : t.post ≠ [] := fun h => by have := t.post_pos; rw [h] at this; simp at this
def Tr.top : Tr → Nd
  | .lf x => x
  | .un x _ => x
  | .bi x _ _ => x
/-- What is left of nodes, read from the end, behind one that ends there with all its arguments. -/
def tkF : Nat → List Nd → Option (List Nd)
  | 0, _ => none
  | _ + 1, [] => none
  | f + 1, x :: r => if ar x.k = 0 then some r else if ar x.k = 1 then tkF f r else if ar x.k = 2 then (tkF f r).bind (tkF f) else none
theorem tkF_len : ∀ (f : Nat) (r s : List Nd), tkF f r = some s → s.length < r.length
  | 0, _, _, h => by simp [tkF] at h
  | f + 1, [], _, h => by simp [tkF] at h
  | f + 1, x :: r, s, h => by
    simp only [tkF] at h
    split at h
    · cases h; simp
    · split at h
      · have := tkF_len f r s h; simp; omega
      · split at h
        · cases h1 : tkF f r with
          | none => rw [h1] at h; cases h
          | some s1 =>
            rw [h1] at h
            have g1 := tkF_len f r s1 h1
            have g2 := tkF_len f s1 s h
            simp; omega
        · cases h
theorem tkF_mono : ∀ (f g : Nat) (r : List Nd), r.length ≤ f → r.length ≤ g → tkF f r = tkF g r
  | 0, 0, _, _, _ => rfl
  | 0, g + 1, [], _, _ => by simp [tkF]
  | 0, g + 1, x :: r, h, _ => by simp at h
  | f + 1, 0, [], _, _ => by simp [tkF]
  | f + 1, 0, x :: r, _, h => by simp at h
  | f + 1, g + 1, [], _, _ => by simp [tkF]
  | f + 1, g + 1, x :: r, h1, h2 => by
    simp only [List.length_cons] at h1 h2
    have e := tkF_mono f g r (by omega) (by omega)
    simp only [tkF, e]
    cases hs : tkF g r with
    | none => rfl
    | some s =>
      have := tkF_len g r s hs
      simp only [Option.bind_some, tkF_mono f g s (by omega) (by omega)]
def tk (r : List Nd) : Option (List Nd) := tkF r.length r
theorem tkF_tk {f : Nat} {r : List Nd} (h : r.length ≤ f) : tkF f r = tk r := tkF_mono f r.length r h (Nat.le_refl _)
theorem tk_nil : tk [] = none := rfl
theorem tk_lf {x : Nd} (h : ar x.k = 0) (r : List Nd) : tk (x :: r) = some r := by unfold tk; simp [tkF, h]
theorem tk_un {x : Nd} (h : ar x.k = 1) (r : List Nd) : tk (x :: r) = tk r := by unfold tk; simp [tkF, h]
theorem tk_bi {x : Nd} (h : ar x.k = 2) (r : List Nd) : tk (x :: r) = (tk r).bind tk := by
  unfold tk
  simp [tkF, h]
  cases hs : tkF r.length r with
  | none => rfl
  | some s =>
    have := tkF_len _ _ _ hs
    simp only [Option.bind_some]
    exact tkF_mono _ _ _ (by omega) (Nat.le_refl _)
theorem tk_no {x : Nd} (h : ar x.k = -1) (r : List Nd) : tk (x :: r) = none := by unfold tk; simp [tkF, h]
theorem tk_len {r s : List Nd} (h : tk r = some s) : s.length < r.length := tkF_len _ _ _ h
theorem tk_post : ∀ (t : Tr), t.ok → ∀ r, tk (t.post.reverse ++ r) = some r
  | .lf x, h, r => by simp only [Tr.post, List.reverse_cons, List.reverse_nil, List.nil_append, List.cons_append]; exact tk_lf h r
  | .un x a, h, r => by
    simp only [Tr.post, List.reverse_append, List.reverse_cons, List.reverse_nil, List.nil_append, List.cons_append]
    rw [tk_un h.1]
    exact tk_post a h.2 r
  | .bi x a b, h, r => by
    simp only [Tr.post, List.reverse_append, List.reverse_cons, List.reverse_nil, List.nil_append, List.cons_append, List.append_assoc]
    rw [tk_bi h.1, tk_post b h.2.2, Option.bind_some, tk_post a h.2.1]
theorem tk_tree : ∀ (f : Nat) (r s : List Nd), r.length ≤ f → tk r = some s → ∃ t : Tr, t.ok ∧ r = t.post.reverse ++ s
  | 0, r, s, hf, h => by
    obtain rfl : r = [] := List.eq_nil_of_length_eq_zero (by omega)
    rw [tk_nil] at h; cases h
  | f + 1, [], s, hf, h => by rw [tk_nil] at h; cases h
  | f + 1, x :: r, s, hf, h => by
    simp only [List.length_cons] at hf
    rcases ar_cases x.k with ⟨e, _⟩ | ⟨e, _⟩ | ⟨e, _⟩ | ⟨e, _⟩
    · rw [tk_lf e] at h
      cases h
      exact ⟨.lf x, e, rfl⟩
    · rw [tk_un e] at h
      obtain ⟨t, ht, rfl⟩ := tk_tree f r s (by omega) h
      exact ⟨.un x t, ⟨e, ht⟩, by simp [Tr.post]⟩
    · rw [tk_bi e] at h
      cases h1 : tk r with
      | none => rw [h1] at h; cases h
      | some s1 =>
        rw [h1] at h
        have := tk_len h1
        obtain ⟨b, hb, rfl⟩ := tk_tree f r s1 (by omega) h1
        obtain ⟨a, ha, rfl⟩ := tk_tree f s1 s (by omega) h
        exact ⟨.bi x a b, ⟨e, ha, hb⟩, by simp [Tr.post]⟩
    · rw [tk_no e] at h; cases h
/-- A stack of trees, its top first. -/
def flat : List Tr → List Nd
  | [] => []
  | t :: s => flat s ++ t.post
def push (s : List Tr) (x : Nd) : Option (List Tr) :=
  if ar x.k = 0 then some (.lf x :: s) else if ar x.k = 1 then (match s with | a :: s => some (.un x a :: s) | _ => none)
  else if ar x.k = 2 then (match s with | b :: a :: s => some (.bi x a b :: s) | _ => none) else none
def build (s : List Tr) : List Nd → Option (List Tr)
  | [] => some s
  | x :: l => (push s x).bind fun s' => build s' l
theorem push_flat {s s' : List Tr} {x : Nd} (h : push s x = some s') : flat s' = flat s ++ [x] := by
  unfold push at h
  split at h
  · cases h; rfl
  · split at h
    · split at h
      · cases h; simp [flat, Tr.post]
      · cases h
    · split at h
      · split at h
        · cases h; simp [flat, Tr.post]
        · cases h
      · cases h
theorem push_ok {s s' : List Tr} {x : Nd} (h : push s x = some s') (hs : ∀ t ∈ s, t.ok) : ∀ t ∈ s', t.ok := by
  unfold push at h
  split at h
  · rename_i e
    cases h
    intro t ht
    rcases List.mem_cons.1 ht with rfl | ht
    · exact e
    · exact hs t ht
  · split at h
    · rename_i e
      split at h
      · cases h
        intro t ht
        rcases List.mem_cons.1 ht with rfl | ht
        · exact ⟨e, hs _ (by simp)⟩
        · exact hs t (by simp [ht])
      · cases h
    · split at h
      · rename_i e
        split at h
        · cases h
          intro t ht
          rcases List.mem_cons.1 ht with rfl | ht
          · exact ⟨e, hs _ (by simp), hs _ (by simp)⟩
          · exact hs t (by simp [ht])
        · cases h
      · cases h
theorem push_len {s s' : List Tr} {x : Nd} (h : push s x = some s') : (s'.length : Int) = s.length + 1 - ar x.k := by
  unfold push at h
  split at h
  · rename_i e; cases h; simp [e]
  · split at h
    · rename_i e
      split at h
      · cases h; simp [e]
      · cases h
    · split at h
      · rename_i e
        split at h
        · cases h; simp [e]; omega
        · cases h
      · cases h
theorem push_some (s : List Tr) (x : Nd) (h0 : 0 ≤ ar x.k) (h : ar x.k ≤ s.length) : ∃ s', push s x = some s' := by
  unfold push
  rcases ar_cases x.k with ⟨e, _⟩ | ⟨e, _⟩ | ⟨e, _⟩ | ⟨e, _⟩
  · simp [e]
  · rw [e] at h
    match s, h with
    | [], h => simp at h
    | a :: s, _ => simp [e]
  · rw [e] at h
    match s, h with
    | [], h => simp at h
    | [_], h => simp at h
    | b :: a :: s, _ => simp [e]
  · omega
theorem push_bd {s s' : List Tr} {x : Nd} (h : push s x = some s') : 0 ≤ ar x.k ∧ ar x.k ≤ s.length := by
  unfold push at h
  rcases ar_cases x.k with ⟨q, _⟩ | ⟨q, _⟩ | ⟨q, _⟩ | ⟨q, _⟩
  · omega
  · rw [q] at h
    match s, h with
    | [], h => simp at h
    | a :: s, _ => simp; omega
  · rw [q] at h
    match s, h with
    | [], h => simp at h
    | [_], h => simp at h
    | b :: a :: s, _ => simp; omega
  · rw [q] at h; simp at h
theorem build_flat : ∀ (l : List Nd) (s s' : List Tr), build s l = some s' → flat s' = flat s ++ l
  | [], s, s', h => by cases h; simp
  | x :: l, s, s', h => by
    unfold build at h
    cases h1 : push s x with
    | none => rw [h1] at h; cases h
    | some s1 =>
      rw [h1] at h
      rw [build_flat l s1 s' h, push_flat h1]
      simp
theorem build_ok : ∀ (l : List Nd) (s s' : List Tr), build s l = some s' → (∀ t ∈ s, t.ok) → ∀ t ∈ s', t.ok
  | [], s, s', h, hs => by cases h; exact hs
  | x :: l, s, s', h, hs => by
    unfold build at h
    cases h1 : push s x with
    | none => rw [h1] at h; cases h
    | some s1 =>
      rw [h1] at h
      exact build_ok l s1 s' h (push_ok h1 hs)
theorem build_append (s : List Tr) : ∀ (l m : List Nd), build s (l ++ m) = (build s l).bind fun s' => build s' m := by
  intro l
  induction l generalizing s with
  | nil => intro m; rfl
  | cons x l ih =>
    intro m
    simp only [List.cons_append, build]
    cases push s x with
    | none => rfl
    | some s1 => exact ih s1 m
theorem build_post : ∀ (t : Tr), t.ok → ∀ (s : List Tr), build s t.post = some (t :: s)
  | .lf x, h, s => by simp only [Tr.post, build, push]; rw [if_pos (show ar x.k = 0 from h)]; rfl
  | .un x a, h, s => by
    simp only [Tr.post]
    rw [build_append, build_post a h.2 s, Option.bind_some]
    simp [build, push, h.1]
  | .bi x a b, h, s => by
    simp only [Tr.post]
    rw [build_append, build_post a h.2.1 s, Option.bind_some, build_append, build_post b h.2.2, Option.bind_some]
    simp [build, push, h.1]
theorem build_post_append {t : Tr} (h : t.ok) (s : List Tr) (l : List Nd) : build s (t.post ++ l) = build (t :: s) l := by
  rw [build_append, build_post t h s, Option.bind_some]
/-- The program's look from the front: how many are had. -/
def scan (h : Int) : List Nd → Option Int
  | [] => some h
  | x :: l => if (decide (ar x.k < 0) || decide (h < ar x.k) || !okN x) = true then none else scan (h + 1 - ar x.k) l
def rightB (l : List Nd) : Bool := (scan 0 l == some 1) && decide (l.length ≤ 24)
theorem scan_build : ∀ (l : List Nd) (s : List Tr) (h : Int), scan s.length l = some h → ∃ s', build s l = some s' ∧ (s'.length : Int) = h ∧ (∀ x ∈ l, okN x = true)
  | [], s, h, e => by cases e; exact ⟨s, rfl, rfl, by simp⟩
  | x :: l, s, h, e => by
    unfold scan at e
    split at e
    · cases e
    · rename_i hc
      simp only [Bool.or_eq_true, decide_eq_true_eq, Bool.not_eq_true', not_or, Bool.not_eq_false] at hc
      obtain ⟨s1, h1⟩ := push_some s x (by omega) (by omega)
      have hl := push_len h1
      rw [← hl] at e
      obtain ⟨s', h2, h3, h4⟩ := scan_build l s1 h e
      refine ⟨s', by unfold build; rw [h1]; exact h2, h3, ?_⟩
      intro y hy
      rcases List.mem_cons.1 hy with rfl | hy
      · exact hc.2
      · exact h4 y hy
theorem build_scan : ∀ (l : List Nd) (s s' : List Tr), build s l = some s' → (∀ x ∈ l, okN x = true) → scan s.length l = some (s'.length : Int)
  | [], s, s', e, _ => by cases e; rfl
  | x :: l, s, s', e, ho => by
    unfold build at e
    cases h1 : push s x with
    | none => rw [h1] at e; cases e
    | some s1 =>
      rw [h1] at e
      have hl := push_len h1
      have := build_scan l s1 s' e (fun y hy => ho y (List.mem_cons_of_mem _ hy))
      unfold scan
      rw [if_neg, ← hl]
      · exact this
      · have h0 : 0 ≤ ar x.k ∧ ar x.k ≤ s.length := by
          unfold push at h1
          rcases ar_cases x.k with ⟨q, _⟩ | ⟨q, _⟩ | ⟨q, _⟩ | ⟨q, _⟩
          · omega
          · rw [q] at h1
            match s, h1 with
            | [], h1 => simp at h1
            | a :: s, _ => simp; omega
          · rw [q] at h1
            match s, h1 with
            | [], h1 => simp at h1
            | [_], h1 => simp at h1
            | b :: a :: s, _ => simp; omega
          · rw [q] at h1; simp at h1
        have := ho x (by simp)
        simp [this]
        omega
/-- Nodes that are right are a tree's. -/
theorem right_tree (l : List Nd) : rightB l = true ↔ ∃ t : Tr, t.ok ∧ t.post = l ∧ (∀ x ∈ l, okN x = true) ∧ l.length ≤ 24 := by
  unfold rightB
  rw [Bool.and_eq_true, beq_iff_eq, decide_eq_true_eq]
  constructor
  · rintro ⟨h, hl⟩
    obtain ⟨s', h1, h2, h3⟩ := scan_build l [] 1 h
    have h4 := build_flat l [] s' h1
    have h5 := build_ok l [] s' h1 (by simp)
    match s', h2, h4, h5 with
    | [], h2, _, _ => simp at h2
    | [t], _, h4, h5 => exact ⟨t, h5 t (by simp), by simpa [flat] using h4, h3, hl⟩
    | _ :: _ :: _, h2, _, _ => simp at h2; omega
  · rintro ⟨t, ht, rfl, h3, hl⟩
    exact ⟨build_scan _ [] [t] (build_post t ht []) h3, hl⟩
/-- The reference's look from the end. -/
theorem right_tk (l : List Nd) : rightB l = (l.all (fun x => decide (0 ≤ ar x.k) && okN x) && decide (0 < l.length) && decide (l.length ≤ 24) && (tk l.reverse == some [])) := by
  rw [Bool.eq_iff_iff, right_tree]
  simp only [Bool.and_eq_true, decide_eq_true_eq, List.all_eq_true, beq_iff_eq]
  constructor
  · rintro ⟨t, ht, rfl, h3, hl⟩
    have := tk_post t ht []
    rw [List.append_nil] at this
    refine ⟨⟨⟨fun x hx => ⟨?_, h3 x hx⟩, t.post_pos⟩, hl⟩, this⟩
    have hsc := build_scan _ [] [t] (build_post t ht []) h3
    clear this ht h3 hl
    revert hsc
    generalize (([] : List Tr).length : Int) = h0
    generalize (([t] : List Tr).length : Int) = h1
    generalize t.post = l at hx
    intro hsc
    induction l generalizing h0 with
    | nil => cases hx
    | cons y l ih =>
      unfold scan at hsc
      split at hsc
      · cases hsc
      · rename_i hc
        simp only [Bool.or_eq_true, decide_eq_true_eq, not_or] at hc
        rcases List.mem_cons.1 hx with rfl | hx
        · omega
        · exact ih _ hx hsc
  · rintro ⟨⟨⟨h1, _⟩, hl⟩, h4⟩
    obtain ⟨t, ht, he⟩ := tk_tree _ _ _ (Nat.le_refl _) h4
    rw [List.append_nil] at he
    exact ⟨t, ht, (List.reverse_inj.1 he).symm, fun x hx => (h1 x hx).2, hl⟩
end Go.Proofs.Ytinommcocgnmlaa.Own
