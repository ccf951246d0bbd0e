/- What the printed functions of layers 17 and 18 come to, continued: Right, Begin, the reference's Node, at, Type. -/
import Derived.Test.YtinommcocgnmlaaTyA
namespace Go.Proofs.Ytinommcocgnmlaa.PTypingTypes
open Go.RowKit Go.Proofs.YtinommcocgnmlaaW.PrintWords Go.Proofs.YtinommcocgnmlaaW.PrintLast Go.Proofs.YtinommcocgnmlaaW.PrintMore
open _root_.Go.Proofs.Ytinommcocgnmlaa.Own
set_option linter.unusedVariables false
set_option linter.unusedSimpArgs false
/-- A node as the plain lemmas have it. -/
def nd (x : S73) : Nd := ⟨x.f0, x.f1⟩
def nds (l : List S73) : List Nd := l.map nd
theorem nds_length (l : List S73) : (nds l).length = l.length := by simp [nds]
theorem rd_at (l : List S73) (i : Nat) (h : i < l.length) : rd_T73 l (i : Int) = l[i] := by simp [rd_T73, h]
theorem drop_at (l : List S73) (i : Nat) (h : i < l.length) : nds (l.drop i) = nd l[i] :: nds (l.drop (i + 1)) := by
  unfold nds
  rw [List.drop_eq_getElem_cons h, List.map_cons]
theorem w64 {x : Int} (h0 : -9223372036854775808 ≤ x) (h1 : x ≤ 9223372036854775807) : wrap64 x = x := by unfold wrap64; omega
theorem ar_bd (a : Int) : -1 ≤ ar a ∧ ar a ≤ 2 := by rcases ar_cases a with ⟨h, _⟩ | ⟨h, _⟩ | ⟨h, _⟩ | ⟨h, _⟩ <;> omega
theorem right_l0 (l : List S73) (hl : l.length < 1099511627776) : ∀ (d k i : Nat) (h : Int), l.length - i = d → i ≤ l.length → d + 3 < k → 0 ≤ h → h ≤ i →
    parse_Right.l0 k l h l (l.length : Int) i = some ((scan h (nds (l.drop i)) == some 1) && decide (l.length ≤ 24))
  | 0, k, i, h, hd, hi, hk, h0, h1 => by
    obtain ⟨m, rfl, hm⟩ := succ_of hk
    simp only [parse_Right.l0]
    rw [if_neg (by omega), List.drop_of_length_le (by omega)]
    have e : (scan h (nds []) == some 1) = decide (h = 1) := by
      show (some h == some 1) = _
      by_cases e : h = 1
      · subst e; rfl
      · rw [decide_eq_false e]; exact beq_eq_false_iff_ne.2 (fun q => e (by cases q; rfl))
    rw [e]
    by_cases e1 : h = 1
    · rw [if_pos e1, decide_eq_true e1, Bool.true_and]
      congr 1
      exact decide_eq_decide.2 (by omega)
    · rw [if_neg e1, decide_eq_false e1, Bool.false_and]
  | d + 1, k, i, h, hd, hi, hk, h0, h1 => by
    obtain ⟨m, rfl, hm⟩ := succ_of hk
    have hlt : i < l.length := by omega
    have hb := ar_bd l[i].f0
    have hR := fun (hc : 0 ≤ ar l[i].f0) (h2 : ar l[i].f0 ≤ h) => right_l0 l hl d m (i + 1) (h + 1 - ar l[i].f0) (by omega) (by omega) (by omega) (by omega) (by omega)
    simp only [parse_Right.l0]
    rw [if_pos (by omega), if_pos (by omega), if_pos (by omega), rd_at l i hlt, args_eq (by omega), Option.bind_some, drop_at l i hlt]
    have es : scan h (nd l[i] :: nds (l.drop (i + 1))) = if (decide (ar l[i].f0 < 0) || decide (h < ar l[i].f0) || !okN (nd l[i])) = true then none else scan (h + 1 - ar l[i].f0) (nds (l.drop (i + 1))) := rfl
    rw [es]
    have ew : wrap64 (h + wrap64 (1 - ar l[i].f0)) = h + 1 - ar l[i].f0 := by rw [w64 (x := 1 - ar l[i].f0) (by omega) (by omega), w64 (by omega) (by omega)]; omega
    have ei : wrap64 ((i : Int) + 1) = ((i + 1 : Nat) : Int) := by rw [w64 (by omega) (by omega)]; omega
    rw [ew, ei]
    by_cases c1 : ar l[i].f0 < 0
    · simp [c1]
    · by_cases c2 : h < ar l[i].f0
      · simp [c1, c2]
      · rw [hR (by omega) (by omega)]
        generalize hz : ((scan (h + 1 - ar l[i].f0) (nds (l.drop (i + 1))) == some 1) && decide (l.length ≤ 24)) = z
        unfold okN nd
        by_cases c3 : l[i].f1 < 0
        · simp [c1, c2, c3, show ¬ (0 ≤ l[i].f1) by omega]
        · by_cases c4 : l[i].f1 > 15
          · simp [c1, c2, c3, c4, show ¬ (l[i].f1 ≤ 15) by omega]
          · by_cases c5 : l[i].f1 > 0
            · by_cases c6 : l[i].f0 = 4
              · simp [c1, c2, c3, c4, c5, c6, show (0 ≤ l[i].f1) by omega, show (l[i].f1 ≤ 15) by omega]
                rw [c6] at c1 c2 hz
                simp [c1, c2, hz]
              · by_cases c7 : l[i].f0 = 5
                · simp [c1, c2, c3, c4, c5, c6, c7, show (0 ≤ l[i].f1) by omega, show (l[i].f1 ≤ 15) by omega]
                  rw [c7] at c1 c2 hz
                  simp [c1, c2, hz]
                · simp [c1, c2, c3, c4, c5, c6, c7, show (0 ≤ l[i].f1) by omega, show (l[i].f1 ≤ 15) by omega]
            · simp [c1, c2, c3, c4, c5, show (0 ≤ l[i].f1) by omega, show (l[i].f1 ≤ 15) by omega]
              exact hz.symm
theorem right_eq (l : List S73) (hl : l.length < 1099511627776) {k : Nat} (hk : l.length + 3 < k) : parse_Right.f k l = some (rightB (nds l)) := by
  unfold parse_Right.f
  have := right_l0 l hl l.length k 0 0 (by omega) (by omega) hk (by omega) (by omega)
  rw [List.drop_zero] at this
  refine Eq.trans this ?_
  unfold rightB
  rw [nds_length]
/-- Where what ends with a node begins; -1: there are not enough. -/
def beg (r : List Nd) : Int := match tk r with | some s => s.length | none => -1
theorem tk_take {l : List Nd} {s : List Nd} (h : tk l.reverse = some s) : s = (l.take s.length).reverse := by
  obtain ⟨t, _, he⟩ := tk_tree _ _ _ (Nat.le_refl _) h
  have : l = s.reverse ++ t.post := by
    have := congrArg List.reverse he
    simpa using this
  rw [this, List.take_append_of_le_length (by simp), List.take_of_length_le (by simp)]
  simp
theorem rbegin_eq (l : List S73) (hl : l.length < 1099511627776) (ha : ∀ x ∈ l, 0 ≤ ar x.f0) : ∀ (i k : Nat), i < l.length → 4 * i + 5 ≤ k → forepeakref17_Begin.f k l i = some (beg (nds (l.take (i + 1))).reverse) := by
  intro i
  induction i using Nat.strongRecOn with
  | _ i ih =>
    intro k hi hk
    obtain ⟨m, rfl⟩ : ∃ m, k = m + 4 := ⟨k - 4, by omega⟩
    have h0 := ha l[i] (List.getElem_mem _)
    have hr : (nds (l.take (i + 1))).reverse = nd l[i] :: (nds (l.take i)).reverse := by
      unfold nds
      rw [List.take_succ_eq_append_getElem hi, List.map_append, List.reverse_append]
      rfl
    have hpre : ∀ j, j ≤ i → ∀ q, 4 * j + 1 ≤ q → 0 < j → forepeakref17_Begin.f q l ((j : Int) - 1) = some (beg (nds (l.take j)).reverse) := by
      intro j hj q hq h0
      have := ih (j - 1) (by omega) q (by omega) (by omega)
      rw [show j - 1 + 1 = j by omega, show ((j - 1 : Nat) : Int) = (j : Int) - 1 by omega] at this
      exact this
    rw [hr]
    simp only [forepeakref17_Begin.f]
    have hst : ∀ (q : Nat) (at_ c : Int), forepeakref17_Begin.l0 (q + 1) l (i : Int) at_ c = if c < ar l[i].f0 then (if at_ < 1 then (some (-1)) else ((forepeakref17_Begin.f q l (wrap64 (at_ - 1))).bind fun t134 => (if t134 < 0 then (some (-1)) else (forepeakref17_Begin.l0 q l (i : Int) t134 (wrap64 (c + 1)))))) else (some at_) := by
      intro q at_ c
      simp only [forepeakref17_Begin.l0]
      rw [if_pos (by omega), if_pos (by omega), rd_at l i hi, rargs_eq, Option.bind_some]
    rcases ar_cases l[i].f0 with ⟨e, _⟩ | ⟨e, _⟩ | ⟨e, _⟩ | ⟨e, _⟩
    · rw [hst, e, if_neg (by omega)]
      unfold beg
      rw [tk_lf e]
      simp [nds_length]
      omega
    · rw [hst, e, if_pos (by omega)]
      unfold beg
      rw [tk_un e]
      by_cases hi0 : i = 0
      · subst hi0
        rw [if_pos (by omega)]
        simp [nds, tk_nil]
      · rw [if_neg (by omega), w64 (by omega) (by omega), hpre i (Nat.le_refl _) _ (by omega) (by omega), Option.bind_some]
        unfold beg
        cases hs : tk (nds (l.take i)).reverse with
        | none => simp
        | some s =>
          simp only
          rw [if_neg (by omega), hst, e, if_neg (by unfold wrap64; omega)]
    · rw [hst, e, if_pos (by omega)]
      unfold beg
      rw [tk_bi e]
      by_cases hi0 : i = 0
      · subst hi0
        rw [if_pos (by omega)]
        simp [nds, tk_nil]
      · rw [if_neg (by omega), w64 (by omega) (by omega), hpre i (Nat.le_refl _) _ (by omega) (by omega), Option.bind_some]
        unfold beg
        cases hs : tk (nds (l.take i)).reverse with
        | none => simp
        | some s =>
          have hsl := tk_len hs
          rw [List.length_reverse, nds_length, List.length_take] at hsl
          have hse := tk_take hs
          have hse2 : s = (nds (l.take s.length)).reverse := by
            conv => lhs; rw [hse]
            unfold nds
            rw [← List.map_take, List.take_take, Nat.min_eq_left (by omega)]
          simp only [Option.bind_some]
          rw [if_neg (by omega), hst, e, if_pos (by unfold wrap64; omega)]
          by_cases hs0 : s.length = 0
          · rw [if_pos (by omega)]
            obtain rfl := List.eq_nil_of_length_eq_zero hs0
            simp [tk_nil]
          · rw [if_neg (by omega), w64 (by omega) (by omega), hpre s.length (by omega) _ (by omega) (by omega), Option.bind_some]
            unfold beg
            rw [← hse2]
            cases hs2 : tk s with
            | none => simp
            | some s2 =>
              simp only
              rw [if_neg (by omega), hst, e, if_neg (by unfold wrap64; omega)]
    · omega
theorem rright_l0 (l : List S73) (hl : l.length < 1099511627776) (K : Nat) (hK : 4 * l.length + 5 ≤ K) : ∀ (d k i : Nat), l.length - i = d → i ≤ l.length → d + K < k → (∀ x ∈ l.take i, (decide (0 ≤ ar x.f0) && okN (nd x)) = true) →
    forepeakref17_Right.l0 k l i = some (rightB (nds l))
  | 0, k, i, hd, hi, hk, hp => by
    obtain ⟨m, rfl, hm⟩ := succ_of hk
    rw [List.take_of_length_le (by omega)] at hp
    simp only [forepeakref17_Right.l0]
    rw [if_neg (by omega), right_tk]
    have hall : (nds l).all (fun x => decide (0 ≤ ar x.k) && okN x) = true := by
      rw [List.all_eq_true]
      intro x hx
      obtain ⟨y, hy, rfl⟩ := List.mem_map.1 hx
      exact hp y hy
    rw [hall, nds_length]
    by_cases c1 : 0 < l.length
    · rw [if_pos (by omega)]
      by_cases c2 : l.length ≤ 24
      · rw [if_pos (by omega), w64 (by omega) (by omega)]
        have hB := rbegin_eq l hl (fun x hx => by have := hp x hx; rw [Bool.and_eq_true, decide_eq_true_eq] at this; exact this.1) (l.length - 1) m (by omega) (by omega)
        rw [show ((l.length - 1 : Nat) : Int) = (l.length : Int) - 1 by omega, show l.length - 1 + 1 = l.length by omega, List.take_length] at hB
        rw [hB, Option.bind_some]
        congr 1
        unfold beg
        simp only [c1, c2, decide_true, Bool.true_and]
        cases hs : tk (nds l).reverse with
        | none => rfl
        | some s =>
          simp only
          cases s with
          | nil => rfl
          | cons a s =>
            rw [beq_eq_false_iff_ne.2 (by simp; omega), beq_eq_false_iff_ne.2 (by simp)]
      · rw [if_neg (by omega)]; simp [c1, c2]
    · rw [if_neg (by omega)]; simp [c1]
  | d + 1, k, i, hd, hi, hk, hp => by
    obtain ⟨m, rfl, hm⟩ := succ_of hk
    have hlt : i < l.length := by omega
    have hb := ar_bd l[i].f0
    have ei : wrap64 ((i : Int) + 1) = ((i + 1 : Nat) : Int) := by rw [w64 (by omega) (by omega)]; omega
    have hno : (decide (0 ≤ ar l[i].f0) && okN (nd l[i])) = false → rightB (nds l) = false := by
      intro h
      rw [right_tk]
      have : (nds l).all (fun x => decide (0 ≤ ar x.k) && okN x) = false := by
        rw [List.all_eq_false]
        exact ⟨nd l[i], List.mem_map.2 ⟨l[i], List.getElem_mem _, rfl⟩, by rw [show (nd l[i]).k = l[i].f0 from rfl, h]; simp⟩
      rw [this]; simp
    have hyes : (decide (0 ≤ ar l[i].f0) && okN (nd l[i])) = true → forepeakref17_Right.l0 m l ((i + 1 : Nat) : Int) = some (rightB (nds l)) := by
      intro h
      refine rright_l0 l hl K hK d m (i + 1) (by omega) (by omega) (by omega) ?_
      intro x hx
      rw [List.take_succ_eq_append_getElem hlt] at hx
      rcases List.mem_append.1 hx with hx | hx
      · exact hp x hx
      · obtain rfl := List.mem_singleton.1 hx; exact h
    simp only [forepeakref17_Right.l0]
    rw [if_pos (by omega), if_pos (by omega), rd_at l i hlt, rargs_eq, Option.bind_some, ei]
    generalize hz : rightB (nds l) = z at *
    unfold okN nd at hno hyes
    simp only at hno hyes
    by_cases c1 : ar l[i].f0 < 0
    · rw [hno (by simp [show ¬ (0 ≤ ar l[i].f0) by omega])]; simp [c1]
    · by_cases c3 : l[i].f1 < 0
      · rw [hno (by simp [show ¬ (0 ≤ l[i].f1) by omega])]; simp [c1, c3]
      · by_cases c4 : l[i].f1 > 15
        · rw [hno (by simp [show ¬ (l[i].f1 ≤ 15) by omega])]; simp [c1, c3, c4]
        · by_cases c5 : l[i].f1 > 0
          · by_cases c6 : l[i].f0 = 4
            · rw [hyes (by simp [c6, show (0 ≤ l[i].f1) by omega, show (l[i].f1 ≤ 15) by omega, show 0 ≤ ar 4 by decide])]; simp [c1, c3, c4, c5, c6]
              rw [c6] at c1; simp [c1]
            · by_cases c7 : l[i].f0 = 5
              · rw [hyes (by simp [c7, show (0 ≤ l[i].f1) by omega, show (l[i].f1 ≤ 15) by omega, show 0 ≤ ar 5 by decide])]; simp [c1, c3, c4, c5, c6, c7]
                rw [c7] at c1; simp [c1]
              · rw [hno (by simp [c6, c7, show ¬ (l[i].f1 ≤ 0) by omega])]; simp [c1, c3, c4, c5, c6, c7]
          · rw [hyes (by simp [show (0 ≤ l[i].f1) by omega, show (l[i].f1 ≤ 15) by omega, show (l[i].f1 ≤ 0) by omega, show 0 ≤ ar l[i].f0 by omega])]; simp [c1, c3, c4, c5]
theorem rright_eq (l : List S73) (hl : l.length < 1099511627776) {k : Nat} (hk : 5 * l.length + 6 ≤ k) : forepeakref17_Right.f k l = some (rightB (nds l)) := by
  unfold forepeakref17_Right.f
  exact rright_l0 l hl (4 * l.length + 5) (Nat.le_refl _) l.length k 0 (by omega) (by omega) (by omega) (by simp)
/-- The reference's rules. -/
def rulesL : List S88 := [⟨1, 0, 0, 1⟩, ⟨3, 0, 0, 1⟩, ⟨4, 0, 0, 1⟩, ⟨2, 0, 0, 2⟩, ⟨5, 0, 0, 2⟩, ⟨6, 1, 0, 1⟩, ⟨7, 1, 0, 1⟩, ⟨8, 1, 0, 2⟩, ⟨9, 2, 0, 1⟩, ⟨10, 1, 0, 3⟩, ⟨11, 1, 0, 4⟩, ⟨12, 1, 1, 1⟩, ⟨13, 1, 1, 1⟩, ⟨14, 1, 1, 1⟩, ⟨15, 1, 1, 4⟩, ⟨10, 2, 0, 3⟩, ⟨11, 2, 0, 4⟩, ⟨12, 2, 2, 2⟩, ⟨13, 2, 2, 2⟩, ⟨14, 2, 2, 2⟩, ⟨15, 2, 2, 4⟩]
theorem rules_eq {k : Nat} (hk : 3 ≤ k) : forepeakref18_rules.f k = some rulesL := by
  obtain ⟨m, rfl⟩ : ∃ m, k = m + 3 := ⟨k - 3, by omega⟩
  unfold forepeakref18_rules.f
  simp [forepeakref18_rules.l0, wrap64, rulesL]
def findR (x a b : Int) : List S88 → Int
  | [] => 0
  | r :: l => if r.f0 = x then (if r.f1 = a then (if r.f2 = b then r.f3 else findR x a b l) else findR x a b l) else findR x a b l
theorem findR_cons (x a b : Int) (r : S88) (l : List S88) : findR x a b (r :: l) = if r.f0 = x then (if r.f1 = a then (if r.f2 = b then r.f3 else findR x a b l) else findR x a b l) else findR x a b l := rfl
theorem find_l1 (x a b : Int) (l : List S88) (hl : l.length < 1000) : ∀ (d k i : Nat), l.length - i = d → i ≤ l.length → d < k → forepeakref18_Node.l1 k x [a, b] l i = some (findR x a b (l.drop i))
  | 0, k, i, hd, hi, hk => by
    obtain ⟨m, rfl, hm⟩ := succ_of hk
    simp only [forepeakref18_Node.l1]
    rw [if_neg (by omega), List.drop_of_length_le (by omega)]
    rfl
  | d + 1, k, i, hd, hi, hk => by
    obtain ⟨m, rfl, hm⟩ := succ_of hk
    have hlt : i < l.length := by omega
    have ih := find_l1 x a b l hl d m (i + 1) (by omega) (by omega) (by omega)
    have ei : wrap64 ((i : Int) + 1) = ((i + 1 : Nat) : Int) := by rw [w64 (by omega) (by omega)]; omega
    have er : rd_T88 l (i : Int) = l[i] := by simp [rd_T88, hlt]
    simp only [forepeakref18_Node.l1]
    rw [if_pos (by omega), if_pos (by omega), er, ei, ih, List.drop_eq_getElem_cons hlt]
    rw [findR_cons]
    simp only [rd, List.length_cons, List.length_nil]
    by_cases h1 : l[i].f0 = x
    · by_cases h2 : l[i].f1 = a
      · by_cases h3 : l[i].f2 = b <;> simp [h1, h2, h3]
      · simp [h1, h2]
    · simp [h1]
theorem find_rules (x a b : Int) (ha : 0 ≤ a) (hb : 0 ≤ b) : findR x a b rulesL = (if b = 0 then (if a = 0 then (if ar x = 0 then leafT x else 0) else (if ar x = 1 then oneT x a else 0)) else if a = 0 then 0 else (if ar x = 2 then twoT x a b else 0)) := by
  by_cases hx : 1 ≤ x ∧ x ≤ 15
  · obtain rfl | rfl | rfl | rfl | rfl | rfl | rfl | rfl | rfl | rfl | rfl | rfl | rfl | rfl | rfl : x = 1 ∨ x = 2 ∨ x = 3 ∨ x = 4 ∨ x = 5 ∨ x = 6 ∨ x = 7 ∨ x = 8 ∨ x = 9 ∨ x = 10 ∨ x = 11 ∨ x = 12 ∨ x = 13 ∨ x = 14 ∨ x = 15 := by omega
    all_goals
      simp [findR, rulesL, ar, leafT, oneT, twoT, setT]
      repeat' split
      all_goals first | rfl | omega | (simp_all; done) | (simp_all; omega)
  · have e : ar x = -1 := by
      rcases ar_cases x with ⟨h, _⟩ | ⟨h, _⟩ | ⟨h, _⟩ | ⟨h, _⟩ <;> omega
    rw [e]
    simp [findR, rulesL]
    repeat (first | rw [if_neg (by omega)])
theorem rnode_eq (x : Int) (l : List Int) {k : Nat} (hk : 30 ≤ k) : forepeakref18_Node.f k x l = some (nodeT x l) := by
  obtain ⟨m, rfl⟩ : ∃ m, k = m + 3 := ⟨k - 3, by omega⟩
  unfold forepeakref18_Node.f
  match l with
  | [] =>
    rw [if_neg (by simp)]
    simp only [forepeakref18_Node.l0]
    rw [if_neg (by simp), rules_eq (by omega), Option.bind_some]
    have := find_l1 x 0 0 rulesL (by decide) 21 (m + 2) 0 rfl (by omega) (by omega)
    refine Eq.trans this ?_
    rw [List.drop_zero, find_rules _ _ _ (by omega) (by omega), if_pos rfl, if_pos rfl, nodeT_0]
  | [a] =>
    rw [if_neg (by simp)]
    simp only [forepeakref18_Node.l0]
    rw [if_pos (by simp), if_pos (by omega), if_pos (by simp), Option.bind_some]
    by_cases ha : a < 1
    · rw [if_pos (by simp [rd]; omega), nodeT_1]
      have : oneT x a = 0 := by unfold oneT setT; rw [if_neg (by simp; omega), if_neg (by simp; omega), if_neg (by simp; omega), if_neg (by simp; omega)]
      rw [this]; split <;> rfl
    · rw [if_neg (by simp [rd]; omega), if_neg (by simp [wrap64]), rules_eq (by omega), Option.bind_some]
      have := find_l1 x a 0 rulesL (by decide) 21 (m + 1) 0 rfl (by omega) (by omega)
      refine Eq.trans (by simpa [rd] using this) ?_
      rw [find_rules _ _ _ (by omega) (by omega), if_pos rfl, if_neg (by omega), nodeT_1]
  | [a, b] =>
    rw [if_neg (by simp)]
    simp only [forepeakref18_Node.l0]
    rw [if_pos (by simp), if_pos (by omega), if_pos (by simp), Option.bind_some]
    by_cases ha : a < 1
    · rw [if_pos (by simp [rd]; omega), nodeT_2]
      have : twoT x a b = 0 := by unfold twoT setT; rw [if_pos (by simp; omega)]
      rw [this]; split <;> rfl
    · rw [if_neg (by simp [rd]; omega), if_pos (by simp [wrap64]), if_pos (by simp [wrap64]), if_pos (by simp [wrap64]), Option.bind_some]
      by_cases hb : b < 1
      · rw [if_pos (by simp [rd, wrap64]; omega), nodeT_2]
        have : twoT x a b = 0 := by unfold twoT setT; rw [if_pos (by simp; omega)]
        rw [this]; split <;> rfl
      · rw [if_neg (by simp [rd, wrap64]; omega), if_neg (by simp [wrap64]), rules_eq (by omega), Option.bind_some]
        have := find_l1 x a b rulesL (by decide) 21 m 0 rfl (by omega) (by omega)
        refine Eq.trans (by simpa [rd, wrap64] using this) ?_
        rw [find_rules _ _ _ (by omega) (by omega), if_neg (by omega), if_neg (by omega), nodeT_2]
  | a :: b :: c :: l =>
    rw [if_pos (by simp; omega), nodeT_3]
theorem beg_post (t : Tr) (ht : t.ok) (pre : List Nd) : beg (pre ++ t.post).reverse = pre.length := by
  unfold beg
  rw [List.reverse_append, tk_post t ht]
  simp
theorem rat_eq (l : List S73) (hl : l.length < 1099511627776) (ha : ∀ x ∈ l, 0 ≤ ar x.f0) : ∀ (t : Tr), t.ok → ∀ (pre : List Nd) (i k : Nat), i < l.length → nds (l.take (i + 1)) = pre ++ t.post → 6 * i + 50 ≤ k →
    forepeakref18_at.f k l i = some (tyT pre.length t) := by
  intro t
  have hst : ∀ (i : Nat) (hi : i < l.length) (q : Nat) (args : List Int) (e bad c : Int), args.length < 10 → forepeakref18_at.l0 (q + 1) l (i : Int) args e bad c = if c < ar l[i].f0 then ((forepeakref18_at.f q l e).bind fun bt => (forepeakref17_Begin.f q l e).bind fun b => forepeakref18_at.l0 q l i ([bt.1] ++ args) (wrap64 (b - 1)) (if bt.2 ≥ 0 then bt.2 else bad) (wrap64 (c + 1)))
      else (if bad ≥ 0 then some (0, bad) else (forepeakref18_Node.f q l[i].f0 args).bind fun t => if t = 0 then some (0, (i : Int)) else some (t, -1)) := by
    intro i hi q args e bad c hargs
    simp only [forepeakref18_at.l0]
    rw [if_pos (by omega), if_pos (by omega), rd_at l i hi, rargs_eq, Option.bind_some]
    split
    · congr 1
      funext bt
      simp only [Option.bind_some, List.length_cons, List.length_nil]
      by_cases hb : bt.2 ≥ 0
      · rw [if_pos hb, if_pos (by omega), if_pos hb]
      · rw [if_neg hb, if_pos (by omega), if_neg hb]
    · rfl
  have hbeg : ∀ (a : Tr), a.ok → ∀ (pre : List Nd) (j q : Nat), 0 < j → j ≤ l.length → nds (l.take j) = pre ++ a.post → 4 * j + 5 ≤ q → forepeakref17_Begin.f q l ((j : Int) - 1) = some (pre.length : Int) := by
    intro a hao pre j q h0 hj he hq
    have := rbegin_eq l hl ha (j - 1) q (by omega) (by omega)
    rw [show j - 1 + 1 = j by omega, show ((j - 1 : Nat) : Int) = (j : Int) - 1 by omega, he, beg_post a hao] at this
    exact this
  have hlast : ∀ (i : Nat) (hi : i < l.length) (pre : List Nd) (x : Nd), nds (l.take (i + 1)) = pre ++ [x] → nds (l.take i) = pre ∧ l[i].f0 = x.k ∧ pre.length = i := by
    intro i hi pre x he
    unfold nds at he
    rw [List.take_succ_eq_append_getElem hi, List.map_append] at he
    have h1 := List.append_inj' he (by simp)
    refine ⟨h1.1, ?_, ?_⟩
    · have h2 : [nd l[i]] = [x] := h1.2
      have h3 : nd l[i] = x := by simpa using h2
      rw [← h3]; rfl
    · rw [← h1.1]; simp; omega
  induction t with
  | lf x =>
    intro ht pre i k hi he hk
    obtain ⟨h1, h2, h3⟩ := hlast i hi pre x he
    obtain ⟨m, rfl⟩ : ∃ m, k = m + 2 := ⟨k - 2, by omega⟩
    simp only [forepeakref18_at.f]
    rw [hst i hi _ _ _ _ _ (by simp), h2, show ar x.k = 0 from ht, if_neg (by omega), if_neg (by omega), rnode_eq _ _ (by omega), Option.bind_some, tyT_lf, h3]
    split <;> rfl
  | un x a iha =>
    intro ht pre i k hi he hk
    have he' : nds (l.take (i + 1)) = (pre ++ a.post) ++ [x] := by rw [he]; simp [Tr.post]
    obtain ⟨h1, h2, h3⟩ := hlast i hi _ x he'
    have hap := a.post_pos
    rw [List.length_append] at h3
    obtain ⟨m, rfl⟩ : ∃ m, k = m + 3 := ⟨k - 3, by omega⟩
    simp only [forepeakref18_at.f]
    rw [w64 (by omega) (by omega), hst i hi _ _ _ _ _ (by simp), h2, ht.1, if_pos (by omega)]
    have ih := iha ht.2 pre (i - 1) (m + 1) (by omega) (by rw [show i - 1 + 1 = i by omega]; exact h1) (by omega)
    rw [show ((i - 1 : Nat) : Int) = (i : Int) - 1 by omega] at ih
    rw [ih, Option.bind_some, hbeg a ht.2 pre i (m + 1) (by omega) (by omega) h1 (by omega), Option.bind_some, hst i hi _ _ _ _ _ (by simp), h2, ht.1, if_neg (by unfold wrap64; omega), tyT_un]
    have hb := tyT_bad a pre.length (by omega)
    by_cases e : 0 ≤ (tyT pre.length a).2
    · simp only [ge_iff_le, e, if_true]
    · simp only [ge_iff_le, e, if_false, show ¬ ((0 : Int) ≤ -1) by decide]
      rw [rnode_eq _ _ (by omega), Option.bind_some]
      simp only [List.cons_append, List.nil_append]
      split
      · congr 1; congr 1; omega
      · rfl
  | bi x a b iha ihb =>
    intro ht pre i k hi he hk
    have he' : nds (l.take (i + 1)) = (pre ++ a.post ++ b.post) ++ [x] := by rw [he]; simp [Tr.post]
    obtain ⟨h1, h2, h3⟩ := hlast i hi _ x he'
    have hap := a.post_pos
    have hbp := b.post_pos
    rw [List.length_append, List.length_append] at h3
    obtain ⟨m, rfl⟩ : ∃ m, k = m + 4 := ⟨k - 4, by omega⟩
    simp only [forepeakref18_at.f]
    rw [w64 (by omega) (by omega), hst i hi _ _ _ _ _ (by simp), h2, ht.1, if_pos (by omega)]
    have ih := ihb ht.2.2 (pre ++ a.post) (i - 1) (m + 2) (by omega) (by rw [show i - 1 + 1 = i by omega]; exact h1) (by omega)
    rw [show ((i - 1 : Nat) : Int) = (i : Int) - 1 by omega] at ih
    rw [ih, Option.bind_some, hbeg b ht.2.2 (pre ++ a.post) i (m + 2) (by omega) (by omega) h1 (by omega), Option.bind_some, hst i hi _ _ _ _ _ (by simp), h2, ht.1, if_pos (by unfold wrap64; omega)]
    have h4 : nds (l.take (pre.length + a.post.length)) = pre ++ a.post := by
      have : l.take (pre.length + a.post.length) = (l.take i).take (pre.length + a.post.length) := by rw [List.take_take, Nat.min_eq_left (by omega)]
      unfold nds at h1 ⊢
      rw [this, List.map_take, h1, List.take_append_of_le_length (by simp), List.take_of_length_le (by simp)]
    have ih2 := iha ht.2.1 pre (pre.length + a.post.length - 1) (m + 1) (by omega) (by rw [show pre.length + a.post.length - 1 + 1 = pre.length + a.post.length by omega]; exact h4) (by omega)
    rw [show ((pre.length + a.post.length - 1 : Nat) : Int) = ((pre.length + a.post.length : Nat) : Int) - 1 by omega] at ih2
    rw [List.length_append, w64 (by omega) (by omega), ih2, Option.bind_some, hbeg a ht.2.1 pre (pre.length + a.post.length) (m + 1) (by omega) (by omega) h4 (by omega), Option.bind_some, hst i hi _ _ _ _ _ (by simp), h2, ht.1, if_neg (by unfold wrap64; omega), tyT_bi]
    have hb1 := tyT_bad a pre.length (by omega)
    have ec : (((pre.length + a.post.length : Nat) : Int)) = (pre.length : Int) + a.post.length := by omega
    rw [ec]
    have hb2 := tyT_bad b ((pre.length : Int) + a.post.length) (by omega)
    by_cases e : 0 ≤ (tyT pre.length a).2
    · simp only [ge_iff_le, e, if_true]
    · simp only [ge_iff_le, e, if_false]
      by_cases e1 : 0 ≤ (tyT ((pre.length : Int) + a.post.length) b).2
      · simp only [e1, if_true]
      · simp only [e1, if_false, show ¬ ((0 : Int) ≤ -1) by decide]
        rw [rnode_eq _ _ (by omega), Option.bind_some]
        simp only [List.cons_append, List.nil_append]
        split
        · congr 1; congr 1; omega
        · rfl
/-- The reference's type is the program's. -/
theorem rtype_eq (l : List S73) (hl : l.length < 1099511627776) {k : Nat} (hk : 6 * l.length + 60 ≤ k) : forepeakref18_Type.f k l = some (typeL (nds l)) := by
  unfold forepeakref18_Type.f
  rw [rright_eq l hl (by omega), Option.bind_some]
  cases hr : rightB (nds l) with
  | false => rw [if_neg (by decide)]; unfold typeL; rw [if_neg (by rw [hr]; decide)]
  | true =>
    rw [if_pos rfl]
    obtain ⟨t, ht, hp, ho, hlen⟩ := (right_tree _).1 hr
    have h24 : l.length ≤ 24 := by rw [← nds_length]; exact hlen
    have hpos : 0 < l.length := by rw [← nds_length, ← hp]; exact t.post_pos
    have hall := hr
    rw [right_tk] at hall
    simp only [Bool.and_eq_true, List.all_eq_true, decide_eq_true_eq] at hall
    have ha : ∀ x ∈ l, 0 ≤ ar x.f0 := fun x hx => (hall.1.1.1 (nd x) (List.mem_map.2 ⟨x, hx, rfl⟩)).1
    have := rat_eq l hl ha t ht [] (l.length - 1) k (by omega) (by rw [show l.length - 1 + 1 = l.length by omega, List.take_length]; simpa using hp.symm) (by omega)
    rw [show ((l.length - 1 : Nat) : Int) = (l.length : Int) - 1 by omega] at this
    rw [w64 (by omega) (by omega), this, Option.bind_some, ← hp, typeL_tree t ht (by rw [hp]; exact hr)]
    simp only [List.length_nil]
    show (if (tyT 0 t).2 ≥ 0 then some (0, (tyT 0 t).2, 16) else some ((tyT 0 t).1, 0, 0)) = _
    split <;> rfl
end Go.Proofs.Ytinommcocgnmlaa.PTypingTypes
