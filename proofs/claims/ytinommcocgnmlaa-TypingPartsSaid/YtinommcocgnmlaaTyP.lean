/- Types of queries: plain lemmas on postfix lists and trees (no program in sight). -/
import Derived.Test.YtinommcocgnmlaaPost
namespace Go.Proofs.Ytinommcocgnmlaa.Own
def setT (a : Int) : Bool := decide (a = 1) || decide (a = 2)
def leafT (k : Int) : Int := if k = 1 then 1 else if k = 3 then 1 else if k = 4 then 1 else if k = 2 then 2 else if k = 5 then 2 else 0
def oneT (k a : Int) : Int :=
  if (((decide (k = 6) || decide (k = 7)) && decide (a = 1)) || (decide (k = 9) && decide (a = 2))) = true then 1 else if (decide (k = 8) && decide (a = 1)) = true then 2
  else if (decide (k = 10) && setT a) = true then 3 else if (decide (k = 11) && setT a) = true then 4 else 0
def twoT (k a b : Int) : Int := if (!decide (a = b) || !setT a) = true then 0 else if k = 15 then 4 else a
/-- A node's type, by those of its arguments; 0: none. -/
def nodeT (k : Int) : List Int → Int
  | [] => if ar k = 0 then leafT k else 0
  | [a] => if ar k = 1 then oneT k a else 0
  | [a, b] => if ar k = 2 then twoT k a b else 0
  | _ => 0
/-- The program's way: a stack of types, its bottom first. -/
def typeS (have_ : List Int) (i : Int) : List Nd → Int × Int × Int
  | [] => (have_.headD 0, 0, 0)
  | x :: l =>
    let k := have_.length - (ar x.k).toNat
    let t := nodeT x.k (have_.drop k)
    if 0 < t then typeS (have_.take k ++ [t]) (i + 1) l else (0, i, 16)
/-- The type of a tree whose first node stands at a place, and the first node that has none (-1: each has one). -/
def tyT (i : Int) : Tr → Int × Int
  | .lf x => if nodeT x.k [] = 0 then (0, i) else (nodeT x.k [], -1)
  | .un x a => if 0 ≤ (tyT i a).2 then (0, (tyT i a).2) else if nodeT x.k [(tyT i a).1] = 0 then (0, i + a.post.length) else (nodeT x.k [(tyT i a).1], -1)
  | .bi x a b => if 0 ≤ (tyT i a).2 then (0, (tyT i a).2) else if 0 ≤ (tyT (i + a.post.length) b).2 then (0, (tyT (i + a.post.length) b).2)
    else if nodeT x.k [(tyT i a).1, (tyT (i + a.post.length) b).1] = 0 then (0, i + a.post.length + b.post.length) else (nodeT x.k [(tyT i a).1, (tyT (i + a.post.length) b).1], -1)
theorem leafT_pos (k : Int) : 0 ≤ leafT k ∧ leafT k ≤ 4 := by unfold leafT; repeat' split <;> try omega
theorem oneT_pos (k a : Int) : 0 ≤ oneT k a ∧ oneT k a ≤ 4 := by unfold oneT; repeat' split <;> try omega
theorem twoT_pos (k a b : Int) : 0 ≤ twoT k a b ∧ twoT k a b ≤ 4 := by
  unfold twoT
  split
  · omega
  · rename_i h
    simp only [Bool.or_eq_true, Bool.not_eq_true', not_or, Bool.not_eq_false, setT, decide_eq_true_eq] at h
    split <;> omega
theorem nodeT_0 (k : Int) : nodeT k [] = if ar k = 0 then leafT k else 0 := rfl
theorem nodeT_1 (k a : Int) : nodeT k [a] = if ar k = 1 then oneT k a else 0 := rfl
theorem nodeT_2 (k a b : Int) : nodeT k [a, b] = if ar k = 2 then twoT k a b else 0 := rfl
theorem nodeT_3 (k a b c : Int) (l : List Int) : nodeT k (a :: b :: c :: l) = 0 := rfl
theorem nodeT_pos (k : Int) : ∀ l : List Int, 0 ≤ nodeT k l ∧ nodeT k l ≤ 4
  | [] => by rw [nodeT_0]; have := leafT_pos k; split <;> omega
  | [a] => by rw [nodeT_1]; have := oneT_pos k a; split <;> omega
  | [a, b] => by rw [nodeT_2]; have := twoT_pos k a b; split <;> omega
  | _ :: _ :: _ :: _ => by rw [nodeT_3]; omega
theorem tyT_lf (i : Int) (x : Nd) : tyT i (.lf x) = if nodeT x.k [] = 0 then (0, i) else (nodeT x.k [], -1) := rfl
theorem tyT_un (i : Int) (x : Nd) (a : Tr) : tyT i (.un x a) = if 0 ≤ (tyT i a).2 then (0, (tyT i a).2) else if nodeT x.k [(tyT i a).1] = 0 then (0, i + a.post.length) else (nodeT x.k [(tyT i a).1], -1) := rfl
theorem tyT_bi (i : Int) (x : Nd) (a b : Tr) : tyT i (.bi x a b) = if 0 ≤ (tyT i a).2 then (0, (tyT i a).2) else if 0 ≤ (tyT (i + a.post.length) b).2 then (0, (tyT (i + a.post.length) b).2)
    else if nodeT x.k [(tyT i a).1, (tyT (i + a.post.length) b).1] = 0 then (0, i + a.post.length + b.post.length) else (nodeT x.k [(tyT i a).1, (tyT (i + a.post.length) b).1], -1) := rfl
theorem tyT_bad (t : Tr) (i : Int) (hi : 0 ≤ i) : (0 ≤ (tyT i t).2 ∧ (tyT i t).1 = 0 ∧ i ≤ (tyT i t).2 ∧ (tyT i t).2 < i + t.post.length) ∨ ((tyT i t).2 = -1 ∧ 0 < (tyT i t).1 ∧ (tyT i t).1 ≤ 4) := by
  induction t generalizing i with
  | lf x =>
    have hp := nodeT_pos x.k []
    rw [tyT_lf]
    split
    · left; simp [Tr.post]; omega
    · right; simp; omega
  | un x a iha =>
    have h1 := iha i hi
    have hp := nodeT_pos x.k [(tyT i a).1]
    have hl := a.post_pos
    rw [tyT_un]
    split
    · left; simp [Tr.post]; omega
    · split
      · left; simp [Tr.post]; omega
      · right; simp; omega
  | bi x a b iha ihb =>
    have h1 := iha i hi
    have h2 := ihb (i + a.post.length) (by omega)
    have hp := nodeT_pos x.k [(tyT i a).1, (tyT (i + a.post.length) b).1]
    rw [tyT_bi]
    split
    · left; simp [Tr.post]; omega
    · split
      · left; simp [Tr.post]; omega
      · split
        · left; simp [Tr.post]; omega
        · right; simp; omega
theorem typeS_cons (have_ : List Int) (i : Int) (x : Nd) (l : List Nd) : typeS have_ i (x :: l) = if 0 < nodeT x.k (have_.drop (have_.length - (ar x.k).toNat)) then typeS (have_.take (have_.length - (ar x.k).toNat) ++ [nodeT x.k (have_.drop (have_.length - (ar x.k).toNat))]) (i + 1) l else (0, i, 16) := rfl
/-- The stack of types goes through a tree as the tree's own type says. -/
theorem typeS_post : ∀ (t : Tr), t.ok → ∀ (have_ : List Int) (i : Int), 0 ≤ i → ∀ l, typeS have_ i (t.post ++ l) = if 0 ≤ (tyT i t).2 then (0, (tyT i t).2, 16) else typeS (have_ ++ [(tyT i t).1]) (i + t.post.length) l
  | .lf x, h, have_, i, hi, l => by
    have hp := nodeT_pos x.k []
    simp only [Tr.post, List.cons_append, List.nil_append]
    rw [typeS_cons, show (ar x.k).toNat = 0 by rw [show ar x.k = 0 from h]; rfl, Nat.sub_zero, List.drop_length, List.take_length, tyT_lf]
    by_cases e : nodeT x.k [] = 0
    · rw [if_neg (by omega), if_pos e, if_pos hi]
    · rw [if_pos (by omega), if_neg e, if_neg (by simp)]; rfl
  | .un x a, h, have_, i, hi, l => by
    have hp := nodeT_pos x.k [(tyT i a).1]
    have hb := tyT_bad a i hi
    simp only [Tr.post, List.append_assoc, List.cons_append, List.nil_append]
    rw [typeS_post a h.2 have_ i hi, tyT_un]
    by_cases e : 0 ≤ (tyT i a).2
    · rw [if_pos e, if_pos e, if_pos e]
    · rw [if_neg e, if_neg e, typeS_cons, show (ar x.k).toNat = 1 by rw [h.1]; rfl]
      simp only [List.length_append, List.length_cons, List.length_nil, Nat.zero_add, Nat.add_sub_cancel, List.drop_left, List.take_left]
      by_cases e2 : nodeT x.k [(tyT i a).1] = 0
      · rw [if_neg (by omega), if_pos e2, if_pos (by show 0 ≤ i + _; omega)]
      · rw [if_pos (by omega), if_neg e2, if_neg (by simp), show i + (a.post.length : Int) + 1 = i + ((a.post.length + 1 : Nat) : Int) by omega]
  | .bi x a b, h, have_, i, hi, l => by
    have hp := nodeT_pos x.k [(tyT i a).1, (tyT (i + a.post.length) b).1]
    simp only [Tr.post, List.append_assoc, List.cons_append, List.nil_append]
    rw [typeS_post a h.2.1 have_ i hi, tyT_bi]
    by_cases e : 0 ≤ (tyT i a).2
    · rw [if_pos e, if_pos e, if_pos e]
    · rw [if_neg e, if_neg e, typeS_post b h.2.2 _ _ (by omega)]
      by_cases e1 : 0 ≤ (tyT (i + a.post.length) b).2
      · rw [if_pos e1, if_pos e1, if_pos e1]
      · rw [if_neg e1, if_neg e1, typeS_cons, show (ar x.k).toNat = 2 by rw [h.1]; rfl]
        have hd : (have_ ++ [(tyT i a).1] ++ [(tyT (i + a.post.length) b).1]) = have_ ++ [(tyT i a).1, (tyT (i + a.post.length) b).1] := by simp
        rw [hd]
        simp only [List.length_append, List.length_cons, List.length_nil, Nat.zero_add, Nat.add_sub_cancel, List.drop_left, List.take_left]
        by_cases e2 : nodeT x.k [(tyT i a).1, (tyT (i + a.post.length) b).1] = 0
        · rw [if_neg (by omega), if_pos e2, if_pos (by show 0 ≤ i + _ + _; omega)]
        · rw [if_pos (by omega), if_neg e2, if_neg (by simp), show i + (a.post.length : Int) + b.post.length + 1 = i + ((a.post.length + (b.post.length + 1) : Nat) : Int) by omega]
/-- The type of nodes, or why they have none. -/
def typeL (l : List Nd) : Int × Int × Int := if rightB l = true then typeS [] 0 l else (0, 0, 3)
theorem typeL_tree (t : Tr) (ht : t.ok) (hr : rightB t.post = true) : typeL t.post = if 0 ≤ (tyT 0 t).2 then (0, (tyT 0 t).2, 16) else ((tyT 0 t).1, 0, 0) := by
  unfold typeL
  rw [if_pos hr]
  have := typeS_post t ht [] 0 (by omega) []
  rw [List.append_nil] at this
  rw [this]
  split
  · rfl
  · rfl
end Go.Proofs.Ytinommcocgnmlaa.Own
