/- Layer 16, plain: the pieces of a text. -/
import Derived.Lib.AtoiAll
import Derived.Lib.ItoaNum
import Derived.Lib.IndexMore
import Derived.Lib.IndexAny
import Derived.Lib.IndexLaws
namespace Go.Proofs.YtdlfdkdcnabpoaaDoor.Lx
open Go.Lib
/-- A letter, or a digit. -/
def letter (c : UInt8) : Bool := (decide (97 ≤ c.toNat) && decide (c.toNat ≤ 122)) || (decide (48 ≤ c.toNat) && decide (c.toNat ≤ 57))
def num (n : Nat) : List UInt8 := if n < 10 then [UInt8.ofNat (48 + n)] else [49, UInt8.ofNat (38 + n)]
def words : List (List UInt8) := [[97, 108, 108], [108, 105, 118, 101], [109, 105, 110, 101], [117, 112], [100, 111, 119, 110], [116, 97, 103, 115], [111, 119, 110, 101, 114, 115], [99, 111, 117, 110, 116], [115, 111, 109, 101]]
def signs : List (List UInt8) := [[124], [38], [45], [40], [41], [60, 61]]
/-- The words in one text, a blank ahead of each and behind. -/
def wordsText : List UInt8 := [32, 97, 108, 108, 32, 108, 105, 118, 101, 32, 109, 105, 110, 101, 32, 117, 112, 32, 100, 111, 119, 110, 32, 116, 97, 103, 115, 32, 111, 119, 110, 101, 114, 115, 32, 99, 111, 117, 110, 116, 32, 115, 111, 109, 101, 32]
/-- All pieces that there are: kind, text, number. -/
def table : List (Nat × List UInt8 × Nat) := ((List.range 16).flatMap fun n => [(2, 114 :: num n, n), (3, 116 :: num n, n)]) ++ (words.map (fun t => (1, t, 0)) ++ signs.map fun t => (4, t, 0))
def known (t : List UInt8) : Option (Nat × Nat) := (table.find? fun x => x.2.1 == t).map fun x => (x.1, x.2.2)
/-- What a text's first piece would be. -/
def head (l : List UInt8) : List UInt8 := if l.takeWhile letter = [] then (if hasPrefix l [60, 61] then [60, 61] else l.take 1) else l.takeWhile letter
structure Pc where
  kind : Nat
  text : List UInt8
  n : Nat
  pos : Nat
deriving DecidableEq
def scan : Nat → Nat → List UInt8 → Except Nat (List Pc)
  | _, at_, [] => .ok [⟨5, [], 0, at_⟩]
  | 0, at_, _ => .error at_
  | f + 1, at_, c :: l =>
    if c = 32 then scan f (at_ + 1) l else
    match known (head (c :: l)) with
    | none => .error at_
    | some (k, n) =>
      match scan f (at_ + (head (c :: l)).length) ((c :: l).drop (head (c :: l)).length) with
      | .error e => .error e
      | .ok ps => .ok (⟨k, head (c :: l), n, at_⟩ :: ps)
theorem head_pos (c : UInt8) (l : List UInt8) : 1 ≤ (head (c :: l)).length := by
  unfold head
  split
  · split
    · decide
    · simp
  · rename_i h
    exact List.length_pos_iff.2 h
theorem hasPrefix_iff (l p : List UInt8) : hasPrefix l p = true ↔ ∃ r, l = p ++ r := by
  unfold hasPrefix
  rw [List.isPrefixOf_iff_prefix]
  exact ⟨fun ⟨r, h⟩ => ⟨r, h.symm⟩, fun ⟨r, h⟩ => ⟨r, h.symm⟩⟩
theorem takeWhile_pre (l : List UInt8) : ∃ r, l = l.takeWhile letter ++ r := ⟨_, (List.takeWhile_append_dropWhile (p := letter) (l := l)).symm⟩
theorem head_pre (l : List UInt8) : ∃ r, l = head l ++ r := by
  unfold head
  split
  · split
    · rename_i h
      exact (hasPrefix_iff _ _).1 h
    · exact ⟨l.drop 1, (List.take_append_drop 1 l).symm⟩
  · exact takeWhile_pre l
theorem head_len (l : List UInt8) : (head l).length ≤ l.length := by
  obtain ⟨r, h⟩ := head_pre l
  have := congrArg List.length h
  rw [List.length_append] at this
  omega
theorem head_take (l : List UInt8) : l.take (head l).length = head l := by
  obtain ⟨r, h⟩ := head_pre l
  conv => lhs; rw [h]
  rw [show (head (head l ++ r)).length = (head l).length by rw [← h]]
  simp
theorem scan_fuel : ∀ (f g a : Nat) (l : List UInt8), l.length ≤ f → l.length ≤ g → scan f a l = scan g a l
  | f, g, a, [], _, _ => by cases f <;> cases g <;> rfl
  | 0, _, _, c :: l, h, _ => by simp at h
  | _ + 1, 0, _, c :: l, _, h => by simp at h
  | f + 1, g + 1, a, c :: l, h1, h2 => by
    rw [List.length_cons] at h1 h2
    have hp := head_pos c l
    unfold scan
    rw [scan_fuel f g (a + 1) l (by omega) (by omega), scan_fuel f g (a + (head (c :: l)).length) ((c :: l).drop (head (c :: l)).length) (by rw [List.length_drop, List.length_cons]; omega) (by rw [List.length_drop, List.length_cons]; omega)]
def scanF (a : Nat) (l : List UInt8) : Except Nat (List Pc) := scan l.length a l
theorem scanF_nil (a : Nat) : scanF a [] = .ok [⟨5, [], 0, a⟩] := rfl
theorem scanF_blank (a : Nat) (l : List UInt8) : scanF a (32 :: l) = scanF (a + 1) l := by
  unfold scanF
  rw [List.length_cons]
  conv => lhs; unfold scan
  rw [if_pos rfl]
theorem scanF_bad (a : Nat) (c : UInt8) (l : List UInt8) (hc : c ≠ 32) (h : known (head (c :: l)) = none) : scanF a (c :: l) = .error a := by
  unfold scanF
  rw [List.length_cons]
  conv => lhs; unfold scan
  rw [if_neg hc, h]
theorem scanF_piece (a : Nat) (c : UInt8) (l : List UInt8) (hc : c ≠ 32) {k n : Nat} (h : known (head (c :: l)) = some (k, n)) :
    scanF a (c :: l) = (scanF (a + (head (c :: l)).length) ((c :: l).drop (head (c :: l)).length)).map (⟨k, head (c :: l), n, a⟩ :: ·) := by
  have hp := head_pos c l
  unfold scanF
  rw [List.length_cons]
  conv => lhs; unfold scan
  rw [if_neg hc, h, scan_fuel l.length _ _ ((c :: l).drop (head (c :: l)).length) (by rw [List.length_drop, List.length_cons]; omega) (Nat.le_refl _)]
  cases scan ((c :: l).drop (head (c :: l)).length).length (a + (head (c :: l)).length) ((c :: l).drop (head (c :: l)).length) <;> rfl
/-- The document's answer: the pieces, the place, the error. -/
def pieces (s : List UInt8) : List Pc × Nat × Nat := if 48 < s.length then ([], 0, 5) else match scanF 0 s with | .ok ps => (ps, 0, 0) | .error a => ([], a, 3)
/-! ### The table -/
theorem known_mem {t : List UInt8} {k n : Nat} (h : known t = some (k, n)) : (k, t, n) ∈ table := by
  unfold known at h
  cases hf : table.find? (fun x => x.2.1 == t) with
  | none => rw [hf] at h; cases h
  | some x =>
    rw [hf] at h
    have h1 := List.mem_of_find?_eq_some hf
    have h2 := List.find?_some hf
    obtain ⟨a, b, c⟩ := x
    simp only [Option.map_some, Option.some.injEq, Prod.mk.injEq] at h
    simp only [beq_iff_eq] at h2
    obtain ⟨rfl, rfl⟩ := h
    subst h2
    exact h1
set_option maxRecDepth 100000 in
theorem mem_known_all : ∀ x ∈ table, known x.2.1 = some (x.1, x.2.2) := by decide
theorem mem_known {t : List UInt8} {k n : Nat} (h : (k, t, n) ∈ table) : known t = some (k, n) := mem_known_all _ h
set_option maxRecDepth 100000 in
theorem table_roles : ∀ x ∈ table, (x.2.1.head? = some 114 ∨ x.2.1.head? = some 116) → (atoiAll x.2.1.tail = .ok (x.2.2 : Int) ∧ x.2.2 < 16 ∧ num x.2.2 = x.2.1.tail) ∨ (match atoiAll x.2.1.tail with | .ok _ => false | _ => true) = true := by decide
set_option maxRecDepth 100000 in
theorem table_all : ∀ x ∈ table, ((x.2.1.head? = some 114 ∨ x.2.1.head? = some 116) ∧ atoiAll x.2.1.tail = .ok (x.2.2 : Int)) ∨ x.2.1 ∈ words ∨ x.2.1.any (fun c => !letter c) = true := by decide
set_option maxRecDepth 100000 in
theorem table_shape : ∀ x ∈ table, (x.2.1 ≠ [] ∧ x.2.1.all letter = true ∧ x.1 < 4) ∨ (x.1 = 4 ∧ x.2.1 = [60, 61]) ∨ (x.1 = 4 ∧ x.2.1 ∈ ([[124], [38], [45], [40], [41]] : List (List UInt8))) := by decide
set_option maxRecDepth 100000 in
theorem table_one : ∀ x ∈ table, x.2.1.length = 1 → x.2.1 ∈ ([[124], [38], [45], [40], [41]] : List (List UInt8)) := by decide
set_option maxRecDepth 100000 in
theorem role_mem : ∀ n, n < 16 → (2, 114 :: num n, n) ∈ table ∧ (3, 116 :: num n, n) ∈ table := by decide
set_option maxRecDepth 100000 in
theorem word_mem : ∀ t ∈ words, (1, t, 0) ∈ table := by decide
theorem decDigits_num (n : Nat) (h : n < 16) : decDigits n = num n := by
  rw [decDigits]
  unfold num
  by_cases h1 : n < 10
  · rw [dif_pos h1, if_pos h1]
  · rw [dif_neg h1, if_neg h1, decDigits, dif_pos (by omega)]
    have h2 : n / 10 = 1 := by omega
    have h3 : 48 + n % 10 = 38 + n := by omega
    rw [h2, h3]
    rfl
set_option maxRecDepth 100000 in
theorem wordsText_all : ∀ i, i < 50 → wordsText[i]? = some 32 → (wordsText.drop (i + 1)).takeWhile (fun c => c != 32) = [] ∨ (wordsText.drop (i + 1)).takeWhile (fun c => c != 32) ∈ words := by decide
set_option maxRecDepth 100000 in
theorem contains_word : ∀ t ∈ words, contains wordsText (32 :: (t ++ [32])) = true := by decide
theorem takeWhile_stop (p : UInt8 → Bool) (t : List UInt8) (c : UInt8) (r : List UInt8) (ht : ∀ x ∈ t, p x = true) (hc : p c = false) : (t ++ c :: r).takeWhile p = t := by
  induction t with
  | nil => simp [hc]
  | cons a t ih => rw [List.cons_append, List.takeWhile_cons_of_pos (ht a (List.mem_cons_self ..)), ih fun x hx => ht x (List.mem_cons_of_mem _ hx)]
theorem contains_words (t : List UInt8) (ht : t ≠ []) (hl : ∀ c ∈ t, c ≠ 32) : contains wordsText (32 :: (t ++ [32])) = decide (t ∈ words) := by
  by_cases hm : t ∈ words
  · rw [contains_word t hm, decide_eq_true hm]
  · rw [decide_eq_false hm]
    unfold contains
    rw [decide_eq_false_iff_not]
    intro h0
    rcases index_spec wordsText (32 :: (t ++ [32])) with ⟨h1, _⟩ | ⟨i, _, hi, ho, _⟩
    · omega
    · have ho' := ho
      unfold occAt at ho
      rw [List.isPrefixOf_iff_prefix] at ho
      obtain ⟨r, hr⟩ := ho
      have h32 := occAt_head (s := wordsText) (i := i) rfl ho'
      have hd : wordsText.drop (i + 1) = t ++ 32 :: r := by
        rw [← List.drop_drop, ← hr]
        simp
      have htw : (wordsText.drop (i + 1)).takeWhile (fun c => c != 32) = t := by
        rw [hd]
        exact takeWhile_stop _ _ _ _ (fun x hx => by simpa using hl x hx) (by decide)
      have hi' : i < 50 := by
        have : wordsText.length = 46 := by decide
        omega
      rcases wordsText_all i hi' h32 with h | h
      · rw [htw] at h; exact ht h
      · rw [htw] at h; exact hm h
/-! ### What letters and digits are -/
theorem letter_ne {c : UInt8} (h : letter c = true) (d : UInt8) (hd : letter d = false) : c ≠ d := fun e => by rw [e, hd] at h; cases h
theorem atoi_pos {r : List UInt8} {n : Int} (hl : ∀ c ∈ r, letter c = true) (h : atoiAll r = .ok n) : 0 ≤ n := by
  unfold atoiAll at h
  split at h
  · cases h
  · rename_i c r
    have h45 : ¬ c.toNat = 45 := fun e => letter_ne (hl c (List.mem_cons_self ..)) 45 (by decide) (UInt8.toNat_inj.1 e)
    simp only [h45, false_and, not_false_eq_true, true_and, if_false] at h
    split at h
    · cases h
    · cases h
    · split at h
      · cases h
      · cases h
        exact Int.natCast_nonneg _
def roleKind (c : UInt8) : Nat := if c = 114 then 2 else if c = 116 then 3 else 0
theorem named_role {c : UInt8} {r : List UInt8} {n : Int} (hc : roleKind c ≠ 0) (hl : ∀ x ∈ r, letter x = true) (ha : atoiAll r = .ok n) :
    known (c :: r) = if n < 16 ∧ decDigits n.toNat = r then some (roleKind c, n.toNat) else none := by
  have h0 := atoi_pos hl ha
  have hc' : c = 114 ∨ c = 116 := by
    unfold roleKind at hc
    split at hc
    · exact .inl ‹_›
    · split at hc
      · exact .inr ‹_›
      · exact absurd rfl hc
  split
  · rename_i h
    obtain ⟨h16, hd⟩ := h
    have hk : n.toNat < 16 := by omega
    rw [decDigits_num _ hk] at hd
    subst hd
    rcases hc' with rfl | rfl
    · exact mem_known (role_mem _ hk).1
    · exact mem_known (role_mem _ hk).2
  · rename_i hn
    cases hk : known (c :: r) with
    | none => rfl
    | some x =>
      exfalso
      have hm := known_mem (k := x.1) (n := x.2) (by rw [hk])
      rcases table_roles _ hm (by rcases hc' with rfl | rfl <;> simp) with ⟨h1, h2, h3⟩ | h1
      · simp only [List.tail_cons] at h1 h3
        rw [ha] at h1
        injection h1 with h1
        subst h1
        have h2' : x.2 < 16 := h2
        exact hn ⟨by omega, by rw [show ((x.2 : Int)).toNat = x.2 by omega, decDigits_num _ h2, h3]⟩
      · simp only [List.tail_cons] at h1
        rw [ha] at h1
        cases h1
theorem named_word {c : UInt8} {r : List UInt8} (hl : ∀ x ∈ c :: r, letter x = true) (hne : roleKind c ≠ 0 → ∀ n, atoiAll r ≠ .ok n) :
    known (c :: r) = if contains wordsText (32 :: (c :: r ++ [32])) = true then some (1, 0) else none := by
  have hcw := contains_words _ (List.cons_ne_nil _ _) (fun x hx => letter_ne (hl x hx) 32 (by decide))
  split
  · rename_i h
    rw [hcw, decide_eq_true_eq] at h
    exact mem_known (word_mem _ h)
  · rename_i hn
    rw [hcw, decide_eq_true_eq] at hn
    cases hk : known (c :: r) with
    | none => rfl
    | some x =>
      exfalso
      have hm := known_mem (k := x.1) (n := x.2) (by rw [hk])
      rcases table_all _ hm with ⟨h1, h2⟩ | h1 | h1
      · simp only [List.head?_cons, Option.some.injEq, List.tail_cons] at h1 h2
        refine hne ?_ _ h2
        rcases h1 with rfl | rfl <;> decide
      · exact hn h1
      · rw [List.any_eq_true] at h1
        obtain ⟨y, hy, hy'⟩ := h1
        rw [hl y hy] at hy'
        cases hy'
theorem known_two : known [60, 61] = some (4, 0) := by decide
theorem known_one {c : UInt8} : known [c] = if contains [124, 38, 45, 40, 41] [c] = true then some (4, 0) else none := by
  have hcon : contains [124, 38, 45, 40, 41] [c] = ([124, 38, 45, 40, 41] : List UInt8).contains c := by
    rw [contains_iff_indexByte]
    unfold contains
    rw [index_one]
  rw [hcon]
  split
  · rename_i h
    rw [List.contains_iff_mem] at h
    simp only [List.mem_cons, List.not_mem_nil, or_false] at h
    rcases h with rfl | rfl | rfl | rfl | rfl <;> decide
  · rename_i hn
    cases hk : known [c] with
    | none => rfl
    | some x =>
      exfalso
      have hm := known_mem (k := x.1) (n := x.2) (by rw [hk])
      have h1 := table_one _ hm rfl
      apply hn
      rw [List.contains_iff_mem]
      simp only [List.mem_cons, List.not_mem_nil, or_false, List.cons.injEq, and_true] at h1 ⊢
      exact h1
/-! ### A piece stands where it says -/
theorem head_word (t r : List UInt8) (h1 : t ≠ []) (h2 : t.all letter = true) (hr : r.takeWhile letter = []) : head (t ++ r) = t := by
  have htw : (t ++ r).takeWhile letter = t := by
    cases r with
    | nil =>
      rw [List.append_nil]
      have h2' : ∀ x ∈ t, letter x = true := by simpa using h2
      clear h1 h2 hr
      induction t with
      | nil => rfl
      | cons a t ih => rw [List.takeWhile_cons_of_pos (h2' a (List.mem_cons_self ..)), ih fun x hx => h2' x (List.mem_cons_of_mem _ hx)]
    | cons c r =>
      refine takeWhile_stop _ _ _ _ (by simpa using h2) ?_
      cases hc : letter c with
      | false => rfl
      | true => rw [List.takeWhile_cons_of_pos hc] at hr; cases hr
  unfold head
  rw [htw, if_neg h1]
theorem head_sign (t r : List UInt8) (h : t = [60, 61] ∨ t ∈ ([[124], [38], [45], [40], [41]] : List (List UInt8))) : head (t ++ r) = t := by
  rcases h with rfl | h
  · unfold head
    rw [show ([60, 61] ++ r : List UInt8).takeWhile letter = [] from List.takeWhile_cons_of_neg (by decide), if_pos rfl, (hasPrefix_iff _ _).2 ⟨r, rfl⟩, if_pos rfl]
  · simp only [List.mem_cons, List.not_mem_nil, or_false] at h
    have gen : ∀ c : UInt8, letter c = false → c ≠ 60 → head ([c] ++ r) = [c] := by
      intro c hc hne
      unfold head
      rw [show ([c] ++ r : List UInt8).takeWhile letter = [] from List.takeWhile_cons_of_neg (by rw [hc]; decide), if_pos rfl, if_neg ?_]
      · simp
      · rw [hasPrefix_iff]
        rintro ⟨q, hq⟩
        simp only [List.cons_append, List.cons.injEq] at hq
        exact hne hq.1
    rcases h with rfl | rfl | rfl | rfl | rfl <;> exact gen _ (by decide) (by decide)
theorem head_known {t r : List UInt8} {k n : Nat} (h : known t = some (k, n)) (hr : k = 4 ∨ r.takeWhile letter = []) : head (t ++ r) = t := by
  rcases table_shape _ (known_mem h) with ⟨h1, h2, h3⟩ | ⟨_, h1⟩ | ⟨_, h1⟩
  · exact head_word t r h1 h2 (by rcases hr with rfl | hr; exact absurd h3 (by simp); exact hr)
  · exact head_sign t r (.inl h1)
  · exact head_sign t r (.inr h1)
theorem known_first {t : List UInt8} {k n : Nat} (h : known t = some (k, n)) : ∃ c r, t = c :: r ∧ c ≠ 32 := by
  rcases table_shape _ (known_mem h) with ⟨h1, h2, _⟩ | ⟨_, h1⟩ | ⟨_, h1⟩
  · cases t with
    | nil => exact absurd rfl h1
    | cons c r => exact ⟨c, r, rfl, letter_ne (by simp at h2; exact h2.1) 32 (by decide)⟩
  · exact ⟨60, [61], h1, by decide⟩
  · simp only [List.mem_cons, List.not_mem_nil, or_false] at h1
    rcases h1 with h | h | h | h | h <;> exact ⟨_, _, h, by decide⟩
theorem scanF_known {t : List UInt8} {k n : Nat} (h : known t = some (k, n)) (a : Nat) (r : List UInt8) (hr : k = 4 ∨ r.takeWhile letter = []) :
    scanF a (t ++ r) = (scanF (a + t.length) r).map (⟨k, t, n, a⟩ :: ·) := by
  have hh := head_known h hr
  obtain ⟨c, q, rfl, hc⟩ := known_first h
  rw [List.cons_append] at hh ⊢
  rw [scanF_piece a c (q ++ r) hc (k := k) (n := n) (by rw [hh]; exact h), hh]
  simp
/-- What the pieces that there are say: each but the last is known, and stands where it says. -/
structure Good (s : List UInt8) (a : Nat) (ps : List Pc) : Prop where
  last : ps.getLast? = some ⟨5, [], 0, a + s.length⟩
  each : ∀ p ∈ ps, a ≤ p.pos ∧ p.pos + p.text.length ≤ a + s.length ∧ (s.drop (p.pos - a)).take p.text.length = p.text
  known : ∀ p ∈ ps.dropLast, Lx.known p.text = some (p.kind, p.n)
theorem scan_good : ∀ (f a : Nat) (s : List UInt8) (ps : List Pc), scan f a s = .ok ps → Good s a ps
  | f, a, [], ps, h => by
    have : scan f a [] = .ok [⟨5, [], 0, a⟩] := by cases f <;> rfl
    rw [this] at h
    cases h
    exact ⟨rfl, fun p hp => by simp at hp; subst hp; simp, fun p hp => by simp at hp⟩
  | 0, a, c :: l, ps, h => by cases h
  | f + 1, a, c :: l, ps, h => by
    unfold scan at h
    by_cases hc : c = 32
    · rw [if_pos hc] at h
      have g := scan_good f (a + 1) l ps h
      refine ⟨?_, fun p hp => ?_, g.known⟩
      · rw [g.last, List.length_cons, show a + 1 + l.length = a + (l.length + 1) by omega]
      · obtain ⟨h1, h2, h3⟩ := g.each p hp
        refine ⟨by omega, by rw [List.length_cons]; omega, ?_⟩
        rw [show p.pos - a = (p.pos - (a + 1)) + 1 by omega, List.drop_succ_cons]
        exact h3
    · rw [if_neg hc] at h
      cases hk : Lx.known (head (c :: l)) with
      | none => rw [hk] at h; cases h
      | some x =>
        obtain ⟨k, n⟩ := x
        rw [hk] at h
        simp only at h
        cases hs : scan f (a + (head (c :: l)).length) ((c :: l).drop (head (c :: l)).length) with
        | error e => rw [hs] at h; cases h
        | ok qs =>
          rw [hs] at h
          cases h
          have g := scan_good f _ _ qs hs
          have hlen := head_len (c :: l)
          have hnil : qs ≠ [] := fun e => by have := g.last; rw [e] at this; cases this
          refine ⟨?_, fun p hp => ?_, fun p hp => ?_⟩
          · rw [List.getLast?_cons, g.last, Option.getD_some, List.length_drop, show a + (head (c :: l)).length + ((c :: l).length - (head (c :: l)).length) = a + (c :: l).length by omega]
          · rcases List.mem_cons.1 hp with rfl | hp
            · refine ⟨Nat.le_refl _, by show a + (head (c :: l)).length ≤ _; omega, ?_⟩
              show ((c :: l).drop (a - a)).take (head (c :: l)).length = head (c :: l)
              rw [Nat.sub_self, List.drop_zero, head_take]
            · obtain ⟨h1, h2, h3⟩ := g.each p hp
              rw [List.length_drop] at h2
              refine ⟨by omega, by omega, ?_⟩
              rw [List.drop_drop, show (head (c :: l)).length + (p.pos - (a + (head (c :: l)).length)) = p.pos - a by omega] at h3
              exact h3
          · rw [List.dropLast_cons_of_ne_nil hnil] at hp
            rcases List.mem_cons.1 hp with rfl | hp
            · exact hk
            · exact g.known p hp
theorem pieces_good {s : List UInt8} {ps : List Pc} {a : Nat} (h : pieces s = (ps, a, 0)) : Good s 0 ps ∧ s.length ≤ 48 := by
  unfold pieces at h
  split at h
  · cases h
  · rename_i hl
    cases hs : scanF 0 s with
    | error e => rw [hs] at h; cases h
    | ok qs => rw [hs] at h; cases h; exact ⟨scan_good _ _ _ _ hs, by omega⟩
theorem pieces_bad {s : List UInt8} {ps : List Pc} {a e : Nat} (h : pieces s = (ps, a, e)) (he : e ≠ 0) : ps = [] := by
  unfold pieces at h
  split at h
  · cases h; rfl
  · cases hs : scanF 0 s with
    | error e => rw [hs] at h; cases h; rfl
    | ok qs => rw [hs] at h; cases h; exact absurd rfl he
/-! ### Blanks -/
def spread (ps : List Pc) : List UInt8 := ps.flatMap fun p => p.text ++ [32]
/-- The same pieces, but for their places. -/
def Alike (ps qs : List Pc) : Prop := ps.map (fun p => (p.kind, p.text, p.n)) = qs.map fun p => (p.kind, p.text, p.n)
theorem scanF_spread : ∀ (ps : List Pc) (a b : Nat), (∀ p ∈ ps, known p.text = some (p.kind, p.n)) → ∃ qs, scanF a (spread ps ++ [32]) = .ok qs ∧ Alike (ps ++ [⟨5, [], 0, b⟩]) qs
  | [], a, b, _ => ⟨[⟨5, [], 0, a + 1⟩], by show scanF a [32] = _; rw [scanF_blank]; rfl, rfl⟩
  | p :: ps, a, b, h => by
    obtain ⟨qs, h1, h2⟩ := scanF_spread ps (a + p.text.length + 1) b fun q hq => h q (List.mem_cons_of_mem _ hq)
    refine ⟨⟨p.kind, p.text, p.n, a⟩ :: qs, ?_, ?_⟩
    · have : spread (p :: ps) ++ [32] = p.text ++ (32 :: (spread ps ++ [32])) := by simp [spread]
      rw [this, scanF_known (h p (List.mem_cons_self ..)) a _ (.inr (List.takeWhile_cons_of_neg (by decide))), scanF_blank, h1]
      rfl
    · unfold Alike at h2 ⊢
      rw [List.cons_append, List.map_cons, List.map_cons, h2]
theorem blanks {s : List UInt8} {ps : List Pc} {a : Nat} (h : pieces s = (ps, a, 0)) (hl : (32 :: spread ps).length ≤ 48) : ∃ qs, pieces (32 :: spread ps) = (qs, 0, 0) ∧ Alike ps qs := by
  obtain ⟨g, _⟩ := pieces_good h
  have hps : ps = ps.dropLast ++ [⟨5, [], 0, 0 + s.length⟩] := by
    have hne : ps ≠ [] := fun e => by have := g.last; rw [e] at this; cases this
    have h1 := List.dropLast_concat_getLast hne
    have h2 := List.getLast?_eq_some_getLast hne
    rw [g.last] at h2
    injection h2 with h2
    rw [← h2] at h1
    exact h1.symm
  obtain ⟨qs, h1, h2⟩ := scanF_spread ps.dropLast 1 (0 + s.length) g.known
  have hsp : spread ps = spread ps.dropLast ++ [32] := by
    conv => lhs; rw [hps]
    simp [spread]
  refine ⟨qs, ?_, ?_⟩
  · unfold pieces
    rw [if_neg (by omega), scanF_blank, hsp, h1]
  · rw [← hps] at h2
    exact h2
theorem alike_length {ps qs : List Pc} (h : Alike ps qs) : ps.length = qs.length := by
  have := congrArg List.length h
  simpa using this
/-! ### Two pieces -/
set_option maxRecDepth 100000 in
theorem table_short : ∀ x ∈ table, x.2.1.length ≤ 6 := by decide
theorem alone {x : Nat × List UInt8 × Nat} (hx : x ∈ table) : pieces x.2.1 = ([⟨x.1, x.2.1, x.2.2, 0⟩, ⟨5, [], 0, x.2.1.length⟩], 0, 0) := by
  have h := scanF_known (mem_known (k := x.1) (t := x.2.1) (n := x.2.2) hx) 0 [] (.inr rfl)
  have hs := table_short x hx
  rw [List.append_nil, scanF_nil, Nat.zero_add] at h
  unfold pieces
  rw [if_neg (by omega), h]
  rfl
theorem apart {x y : Nat × List UInt8 × Nat} (hx : x ∈ table) (hy : y ∈ table) : ∃ a b, pieces (x.2.1 ++ 32 :: y.2.1) = ([⟨x.1, x.2.1, x.2.2, 0⟩, ⟨y.1, y.2.1, y.2.2, a⟩, ⟨5, [], 0, b⟩], 0, 0) := by
  have h1 := scanF_known (mem_known (k := x.1) (t := x.2.1) (n := x.2.2) hx) 0 (32 :: y.2.1) (.inr (List.takeWhile_cons_of_neg (by decide)))
  have h2 := scanF_known (mem_known (k := y.1) (t := y.2.1) (n := y.2.2) hy) (0 + x.2.1.length + 1) [] (.inr rfl)
  have hs := table_short x hx
  have ht := table_short y hy
  rw [List.append_nil, scanF_nil] at h2
  refine ⟨0 + x.2.1.length + 1, 0 + x.2.1.length + 1 + y.2.1.length, ?_⟩
  unfold pieces
  rw [if_neg (by rw [List.length_append, List.length_cons]; omega), h1, scanF_blank, h2]
  rfl
theorem joined {x y : Nat × List UInt8 × Nat} (hx : x ∈ table) (hy : y ∈ table) (hk : x.1 = 4 ∨ y.1 = 4) : ∃ a b, pieces (x.2.1 ++ y.2.1) = ([⟨x.1, x.2.1, x.2.2, 0⟩, ⟨y.1, y.2.1, y.2.2, a⟩, ⟨5, [], 0, b⟩], 0, 0) := by
  have h1 := scanF_known (mem_known (k := x.1) (t := x.2.1) (n := x.2.2) hx) 0 y.2.1 (by
    rcases hk with h | h
    · exact .inl h
    · right
      rcases table_shape _ hy with ⟨_, _, h3⟩ | ⟨_, h3⟩ | ⟨_, h3⟩
      · rw [h] at h3; exact absurd h3 (by decide)
      · rw [h3]; rfl
      · simp only [List.mem_cons, List.not_mem_nil, or_false] at h3
        rcases h3 with h | h | h | h | h <;> rw [h] <;> rfl)
  have h2 := scanF_known (mem_known (k := y.1) (t := y.2.1) (n := y.2.2) hy) (0 + x.2.1.length) [] (.inr rfl)
  have hs := table_short x hx
  have ht := table_short y hy
  rw [List.append_nil, scanF_nil] at h2
  refine ⟨0 + x.2.1.length, 0 + x.2.1.length + y.2.1.length, ?_⟩
  unfold pieces
  rw [if_neg (by rw [List.length_append]; omega), h1, h2]
  rfl
theorem run_on {x y : Nat × List UInt8 × Nat} (hx : x ∈ table) (hy : y ∈ table) (h1 : x.1 ≠ 4) (h2 : y.1 ≠ 4) : ∃ ps a e, pieces (x.2.1 ++ y.2.1) = (ps, a, e) ∧ (e = 0 → ps.length = 2) := by
  have hs := table_short x hx
  have ht := table_short y hy
  rcases table_shape _ hx with ⟨a1, a2, _⟩ | ⟨h, _⟩ | ⟨h, _⟩
  rotate_left
  · exact absurd h h1
  · exact absurd h h1
  rcases table_shape _ hy with ⟨b1, b2, _⟩ | ⟨h, _⟩ | ⟨h, _⟩
  rotate_left
  · exact absurd h h2
  · exact absurd h h2
  have hall : (x.2.1 ++ y.2.1).all letter = true := by rw [List.all_append, a2, b2]; rfl
  have hne : x.2.1 ++ y.2.1 ≠ [] := fun e => a1 (List.append_eq_nil_iff.1 e).1
  have hh := head_word (x.2.1 ++ y.2.1) [] hne hall rfl
  rw [List.append_nil] at hh
  have hlen : ¬ 48 < (x.2.1 ++ y.2.1).length := by rw [List.length_append]; omega
  unfold pieces
  rw [if_neg hlen]
  generalize x.2.1 ++ y.2.1 = t at *
  cases t with
  | nil => exact absurd rfl hne
  | cons c r =>
    have hc : c ≠ 32 := letter_ne (by simp at hall; exact hall.1) 32 (by decide)
    cases hk : known (c :: r) with
    | none => rw [scanF_bad 0 c r hc (by rw [hh]; exact hk)]; exact ⟨_, _, _, rfl, by decide⟩
    | some p =>
      rw [scanF_piece 0 c r hc (k := p.1) (n := p.2) (by rw [hh]; exact hk), hh, List.drop_length, scanF_nil]
      exact ⟨_, _, _, rfl, fun _ => rfl⟩
end Go.Proofs.YtdlfdkdcnabpoaaDoor.Lx
