/- Roles reached in a graph: the search by depth and the sixteen rounds of the reference come to the same (plain lemmas). -/
import Derived.Test.YtdamljjbeaomoaaDoorVisP
namespace Go.Proofs.YtdamljjbeaomoaaDoor.Own
theorem has_zero (i : Nat) : has 0#16 i = false := by unfold has; simp
theorem has_and (x y : BitVec 16) (i : Nat) : has (x &&& y) i = (has x i && has y i) := by unfold has; rw [BitVec.getLsbD_and]
theorem has_ext {x y : BitVec 16} (h : ∀ i, i < 16 → has x i = has y i) : x = y := BitVec.eq_of_getLsbD_eq fun i hi => h i hi
theorem has_ext' {x y : BitVec 16} (h : ∀ i, has x i = true ↔ has y i = true) : x = y := has_ext fun i _ => by
  have := h i
  cases h1 : has x i <;> cases h2 : has y i <;> simp_all
theorem Rch.wl {g : Nat → BitVec 16} {W : BitVec 16} {a b : Nat} (h : Rch g W a b) : has W a = true := by
  induction h with
  | refl h => exact h
  | step _ _ _ _ _ ih => exact ih
theorem Rch.wr {g : Nat → BitVec 16} {W : BitVec 16} {a b : Nat} (h : Rch g W a b) : has W b = true := by
  cases h with
  | refl h => exact h
  | step _ _ _ _ hc => exact hc
theorem Rch.trans {g : Nat → BitVec 16} {W : BitVec 16} {a b c : Nat} (h1 : Rch g W a b) (h2 : Rch g W b c) : Rch g W a c := by
  induction h2 with
  | refl _ => exact h1
  | step x y _ he hc ih => exact .step _ _ _ ih he hc
/-- What a search leaves is what is reached. -/
theorem Vis.iff {g : Nat → BitVec 16} {W fr out : BitVec 16} (h : Vis g W (elems fr) 0#16 out) (a : Nat) : has out a = true ↔ ∃ q, has fr q = true ∧ Rch g W q a := by
  constructor
  · intro ha
    obtain ⟨q, hq, hR⟩ := h.from_ a ha (has_zero a)
    exact ⟨q, mem_elems.1 hq, hR⟩
  · rintro ⟨q, hq, hR⟩
    induction hR with
    | refl hW => exact h.all q (mem_elems.2 hq) hW
    | step b c _ he hc ih => exact h.shut b ih (has_zero b) c he hc
/-- How many are not yet in a set. -/
def missing (s : BitVec 16) : Nat := ((List.range 16).filter fun i => !has s i).length
theorem filter_le {p q : Nat → Bool} (L : List Nat) (h : ∀ i, q i = true → p i = true) : (L.filter q).length ≤ (L.filter p).length := by
  induction L with
  | nil => simp
  | cons a L ih =>
    rw [List.filter_cons, List.filter_cons]
    cases hq : q a with
    | true => rw [h a hq]; simp; exact ih
    | false =>
      cases p a with
      | true => simp; omega
      | false => simpa using ih
theorem filter_lt {p q : Nat → Bool} (L : List Nat) (h : ∀ i, q i = true → p i = true) (r : Nat) (hr : r ∈ L) (hp : p r = true) (hq : q r = false) : (L.filter q).length < (L.filter p).length := by
  induction L with
  | nil => cases hr
  | cons a L ih =>
    rw [List.filter_cons, List.filter_cons]
    rcases List.mem_cons.1 hr with rfl | hr
    · rw [hp, hq]
      have := filter_le L h
      simp
      omega
    · have := ih hr
      cases hqa : q a with
      | true => rw [h a hqa]; simp; exact this
      | false =>
        cases p a with
        | true => simp; omega
        | false => simpa using this
theorem missing_lt {a b : BitVec 16} (h : ∀ i, has a i = true → has b i = true) {r : Nat} (hr : r < 16) (ha : has a r = false) (hb : has b r = true) : missing b < missing a := by
  unfold missing
  refine filter_lt _ (fun i hi => ?_) r (List.mem_range.2 hr) (by simp [ha]) (by simp [hb])
  cases hai : has a i with
  | false => rfl
  | true => rw [h i hai] at hi; cases hi
/-- One role's round of the reference: 'b' from 0 on. -/
def rb (g : Nat → BitVec 16) (W : BitVec 16) (a : Nat) (s : BitVec 16) : Nat → BitVec 16
  | 0 => s
  | b + 1 => if (has (rb g W a s b) a && (has W a && has W b && has (g a) b)) = true then rb g W a s b ||| bit b else rb g W a s b
/-- A round of all roles. -/
def ra (g : Nat → BitVec 16) (W s : BitVec 16) : Nat → BitVec 16
  | 0 => s
  | a + 1 => rb g W a (ra g W s a) 16
def rr (g : Nat → BitVec 16) (W s : BitVec 16) : Nat → BitVec 16
  | 0 => s
  | i + 1 => ra g W (rr g W s i) 16
section
variable {g : Nat → BitVec 16} {W : BitVec 16}
theorem rb_yes {a b : Nat} {s : BitVec 16} (h : (has (rb g W a s b) a && (has W a && has W b && has (g a) b)) = true) : rb g W a s (b + 1) = rb g W a s b ||| bit b := by rw [rb, if_pos h]
theorem rb_no {a b : Nat} {s : BitVec 16} (h : (has (rb g W a s b) a && (has W a && has W b && has (g a) b)) = false) : rb g W a s (b + 1) = rb g W a s b := by rw [rb, if_neg (by rw [h]; decide)]
theorem rb_step (a b : Nat) (s : BitVec 16) {i : Nat} (h : has (rb g W a s b) i = true) : has (rb g W a s (b + 1)) i = true := by
  rw [rb]
  split
  · rw [has_or, h]; rfl
  · exact h
theorem rb_mono (a : Nat) (s : BitVec 16) {i : Nat} (h : has s i = true) : ∀ k, has (rb g W a s k) i = true
  | 0 => h
  | k + 1 => rb_step a k s (rb_mono a s h k)
theorem rb_from (a : Nat) (s : BitVec 16) {i : Nat} {j : Nat} (h : has (rb g W a s j) i = true) : ∀ k, has (rb g W a s (j + k)) i = true
  | 0 => h
  | k + 1 => rb_step a (j + k) s (rb_from a s h k)
theorem rb_in (a : Nat) (s : BitVec 16) {b : Nat} (hb : b < 16) (h : has s a = true) (h1 : has W a = true) (h2 : has W b = true) (h3 : has (g a) b = true) : has (rb g W a s 16) b = true := by
  have h4 : has (rb g W a s (b + 1)) b = true := by
    rw [rb_yes (by rw [rb_mono a s h b, h1, h2, h3]; rfl), has_or, has_bit b b hb]
    simp
  have := rb_from (g := g) (W := W) a s h4 (15 - b)
  rwa [show b + 1 + (15 - b) = 16 by omega] at this
theorem rb_sound {P : Nat → Prop} (hP : ∀ b c, P b → has W b = true → has W c = true → has (g b) c = true → P c) (a : Nat) (s : BitVec 16) (h : ∀ i, has s i = true → P i) : ∀ k, k ≤ 16 → ∀ i, has (rb g W a s k) i = true → P i
  | 0, _, i, hi => h i hi
  | k + 1, hk, i, hi => by
    have ih := rb_sound hP a s h k (by omega)
    rw [rb] at hi
    split at hi
    · rename_i hc
      rw [Bool.and_eq_true, Bool.and_eq_true, Bool.and_eq_true] at hc
      rw [has_or, has_bit k i (by omega), Bool.or_eq_true] at hi
      rcases hi with hi | hi
      · exact ih i hi
      · obtain rfl : i = k := by simpa using hi
        exact hP a i (ih a hc.1) hc.2.1.1 hc.2.1.2 hc.2.2
    · exact ih i hi
theorem ra_mono (s : BitVec 16) {i : Nat} (h : has s i = true) : ∀ k, has (ra g W s k) i = true
  | 0 => h
  | k + 1 => rb_mono k _ (ra_mono s h k) 16
theorem ra_from (s : BitVec 16) {i j : Nat} (h : has (ra g W s j) i = true) : ∀ k, has (ra g W s (j + k)) i = true
  | 0 => h
  | k + 1 => rb_mono (j + k) _ (ra_from s h k) 16
theorem ra_in (s : BitVec 16) {a b : Nat} (ha : a < 16) (hb : b < 16) (h : has s a = true) (h1 : has W a = true) (h2 : has W b = true) (h3 : has (g a) b = true) : has (ra g W s 16) b = true := by
  have h4 : has (ra g W s (a + 1)) b = true := rb_in a _ hb (ra_mono s h a) h1 h2 h3
  have := ra_from (g := g) (W := W) s h4 (15 - a)
  rwa [show a + 1 + (15 - a) = 16 by omega] at this
theorem ra_sound {P : Nat → Prop} (hP : ∀ b c, P b → has W b = true → has W c = true → has (g b) c = true → P c) (s : BitVec 16) (h : ∀ i, has s i = true → P i) : ∀ k i, has (ra g W s k) i = true → P i
  | 0, i, hi => h i hi
  | k + 1, i, hi => rb_sound hP k _ (fun i hi => ra_sound hP s h k i hi) 16 (Nat.le_refl _) i hi
theorem rr_sound {P : Nat → Prop} (hP : ∀ b c, P b → has W b = true → has W c = true → has (g b) c = true → P c) (s : BitVec 16) (h : ∀ i, has s i = true → P i) : ∀ k i, has (rr g W s k) i = true → P i
  | 0, i, hi => h i hi
  | k + 1, i, hi => ra_sound hP _ (fun i hi => rr_sound hP s h k i hi) 16 i hi
theorem rr_mono (s : BitVec 16) {i : Nat} (h : has s i = true) : ∀ k, has (rr g W s k) i = true
  | 0 => h
  | k + 1 => ra_mono _ (rr_mono s h k) 16
theorem rr_stays (s : BitVec 16) : ∀ k, ra g W (rr g W s k) 16 = rr g W s k ∨ missing (rr g W s k) + k ≤ 16
  | 0 => .inr (by
      unfold missing
      have := List.length_filter_le (fun i => !has s i) (List.range 16)
      simp [rr] at *
      omega)
  | k + 1 => by
    by_cases e : ra g W (rr g W s k) 16 = rr g W s k
    · left
      show ra g W (ra g W (rr g W s k) 16) 16 = ra g W (rr g W s k) 16
      rw [e, e]
    · rcases rr_stays s k with h | h
      · exact absurd h e
      · right
        have hne : ∃ i, i < 16 ∧ has (rr g W s k) i = false ∧ has (ra g W (rr g W s k) 16) i = true := by
          apply Classical.byContradiction
          intro hn
          apply e
          refine has_ext fun i hi => ?_
          cases h1 : has (rr g W s k) i with
          | true => exact ra_mono _ h1 16
          | false =>
            cases h2 : has (ra g W (rr g W s k) 16) i with
            | false => rfl
            | true => exact absurd ⟨i, hi, h1, h2⟩ hn
        obtain ⟨i, hi, h1, h2⟩ := hne
        have := missing_lt (fun j hj => ra_mono (g := g) (W := W) _ hj 16) hi h1 h2
        show missing (ra g W (rr g W s k) 16) + (k + 1) ≤ 16
        omega
theorem missing_zero {s : BitVec 16} (h : missing s = 0) (i : Nat) (hi : i < 16) : has s i = true := by
  unfold missing at h
  have h1 := List.length_eq_zero_iff.1 h
  rw [List.filter_eq_nil_iff] at h1
  have := h1 i (List.mem_range.2 hi)
  simpa using this
theorem rr_shut (s : BitVec 16) : ra g W (rr g W s 16) 16 = rr g W s 16 := by
  rcases rr_stays (g := g) (W := W) s 16 with h | h
  · exact h
  · have h0 : missing (rr g W s 16) = 0 := by omega
    refine has_ext fun i hi => ?_
    have h1 := missing_zero h0 i hi
    rw [h1]
    exact ra_mono _ h1 16
/-- The sixteen rounds come to what is reached. -/
theorem rr_iff (fr : BitVec 16) (a : Nat) : has (rr g W (fr &&& W) 16) a = true ↔ ∃ q, has fr q = true ∧ Rch g W q a := by
  constructor
  · refine rr_sound (P := fun a => ∃ q, has fr q = true ∧ Rch g W q a) ?_ _ ?_ 16 a
    · rintro b c ⟨q, hq, hR⟩ _ hc he
      exact ⟨q, hq, .step _ _ _ hR he hc⟩
    · intro i hi
      rw [has_and, Bool.and_eq_true] at hi
      exact ⟨i, hi.1, .refl _ hi.2⟩
  · rintro ⟨q, hq, hR⟩
    induction hR with
    | refl hW => exact rr_mono _ (by rw [has_and, hq, hW]; rfl) 16
    | step b c hb he hc ih =>
      rw [← rr_shut]
      exact ra_in _ (has_lt hb.wr) (has_lt hc) ih hb.wr hc he
/-- The roles reached. -/
def dn (g : Nat → BitVec 16) (W fr : BitVec 16) : BitVec 16 := rr g W (fr &&& W) 16
theorem dn_iff (fr : BitVec 16) (a : Nat) : has (dn g W fr) a = true ↔ ∃ q, has fr q = true ∧ Rch g W q a := rr_iff fr a
theorem Vis.eq {fr out : BitVec 16} (h : Vis g W (elems fr) 0#16 out) : out = dn g W fr := has_ext' fun i => (h.iff i).trans (dn_iff fr i).symm
end
/-- Each of a list is reached, at once or by one ahead of it. -/
def chain (g : Nat → BitVec 16) (W fr : BitVec 16) : List Nat → List Nat → Bool
  | _, [] => true
  | done, b :: bs => (has W b && (has fr b || done.any fun a => has (g a) b)) && chain g W fr (b :: done) bs
theorem chain_in {g : Nat → BitVec 16} {W fr : BitVec 16} : ∀ (bs done : List Nat), chain g W fr done bs = true → (∀ a ∈ done, has (dn g W fr) a = true) → ∀ b ∈ bs, has (dn g W fr) b = true
  | [], _, _, _, b, hb => by cases hb
  | c :: bs, done, h, hd, b, hb => by
    unfold chain at h
    rw [Bool.and_eq_true, Bool.and_eq_true, Bool.or_eq_true] at h
    obtain ⟨⟨hW, h1⟩, h2⟩ := h
    have hc : has (dn g W fr) c = true := by
      rw [dn_iff]
      rcases h1 with h1 | h1
      · exact ⟨c, h1, .refl _ hW⟩
      · obtain ⟨a, ha, he⟩ := List.any_eq_true.1 h1
        obtain ⟨q, hq, hR⟩ := (dn_iff fr a).1 (hd a ha)
        exact ⟨q, hq, .step _ _ _ hR he hW⟩
    have hr := chain_in bs (c :: done) h2 (fun a ha => by
      rcases List.mem_cons.1 ha with rfl | ha
      · exact hc
      · exact hd a ha)
    rcases List.mem_cons.1 hb with rfl | hb
    · exact hc
    · exact hr b hb
/-- What is reached, told: by a list of it. -/
theorem dn_is {g : Nat → BitVec 16} {W fr x : BitVec 16} (bs : List Nat) (h1 : chain g W fr [] bs = true) (h2 : ∀ i, i < 16 → has x i = true → i ∈ bs) (h3 : ∀ i, i < 16 → has fr i = true → has W i = true → has x i = true)
    (h4 : ∀ a, a < 16 → ∀ b, b < 16 → has x a = true → has W b = true → has (g a) b = true → has x b = true) : dn g W fr = x := by
  refine has_ext' fun i => ⟨fun h => ?_, fun h => chain_in bs [] h1 (fun a ha => by cases ha) i (h2 i (has_lt h) h)⟩
  obtain ⟨q, hq, hR⟩ := (dn_iff fr i).1 h
  clear h
  induction hR with
  | refl hW => exact h3 q (has_lt hW) hq hW
  | step b c hb he hc ih => exact h4 b (has_lt hb.wr) c (has_lt hc) ih hc he
/-- A graph the other way round, of the first k roles. -/
def tnk (g : Nat → BitVec 16) (b : Nat) : Nat → BitVec 16
  | 0 => 0#16
  | k + 1 => if has (g k) b = true then tnk g b k ||| bit k else tnk g b k
theorem tnk_yes {g : Nat → BitVec 16} {b k : Nat} (h : has (g k) b = true) : tnk g b (k + 1) = tnk g b k ||| bit k := by rw [tnk, if_pos h]
theorem tnk_no {g : Nat → BitVec 16} {b k : Nat} (h : has (g k) b = false) : tnk g b (k + 1) = tnk g b k := by rw [tnk, if_neg (by rw [h]; decide)]
theorem tnk_has (g : Nat → BitVec 16) (b : Nat) : ∀ k, k ≤ 16 → ∀ a, has (tnk g b k) a = (decide (a < k) && has (g a) b)
  | 0, _, a => by simp [tnk, has_zero]
  | k + 1, hk, a => by
    have ih := tnk_has g b k (by omega) a
    cases h : has (g k) b with
    | true =>
      rw [tnk_yes h, has_or, ih, has_bit k a (by omega)]
      by_cases e : a = k
      · subst e; simp [h]
      · have : (a < k + 1) = (a < k) := by simp; omega
        simp [e, this]
    | false =>
      rw [tnk_no h, ih]
      by_cases e : a = k
      · subst e; simp [h]
      · have : (a < k + 1) = (a < k) := by simp; omega
        simp [this]
def tn (g : Nat → BitVec 16) (b : Nat) : BitVec 16 := tnk g b 16
theorem tn_has (g : Nat → BitVec 16) (b a : Nat) (ha : a < 16) : has (tn g b) a = has (g a) b := by
  unfold tn
  rw [tnk_has g b 16 (Nat.le_refl _) a]
  simp [ha]
theorem tn_tn (g : Nat → BitVec 16) (a : Nat) (ha : a < 16) : tn (tn g) a = g a := has_ext fun i hi => by rw [tn_has _ _ _ hi, tn_has _ _ _ ha]
theorem tnk_before (g : Nat → BitVec 16) (b k : Nat) (hk : k < 16) : has (tnk g b k) k = false := by rw [tnk_has g b k (by omega)]; simp
/-- A graph without the roles outside of a set. -/
def ct (g : Nat → BitVec 16) (W : BitVec 16) (a : Nat) : BitVec 16 := if has W a = true then g a &&& W else 0#16
theorem ct_has (g : Nat → BitVec 16) (W : BitVec 16) (a b : Nat) : has (ct g W a) b = (has W a && has W b && has (g a) b) := by
  unfold ct
  cases h : has W a with
  | true => rw [if_pos rfl, has_and]; simp [Bool.and_comm]
  | false => rw [if_neg (by decide), has_zero]; simp
/-- Steps backwards. -/
theorem Rch.back {g h : Nat → BitVec 16} {W : BitVec 16} (hg : ∀ a b, a < 16 → b < 16 → has (g a) b = true → has (h b) a = true) {a b : Nat} (hR : Rch g W a b) : Rch h W b a := by
  induction hR with
  | refl hW => exact .refl _ hW
  | step b c hb he hc ih => exact ih.head hc (hg b c (has_lt hb.wr) (has_lt hc) he)
theorem Rch.turn {g : Nat → BitVec 16} {W : BitVec 16} {a b : Nat} : Rch (tn g) W a b ↔ Rch g W b a :=
  ⟨fun h => h.back fun a b ha hb he => by rwa [tn_has g a b hb] at he, fun h => h.back fun a b ha hb he => by rwa [tn_has g b a ha]⟩
theorem Rch.mono {g h : Nat → BitVec 16} {W V : BitVec 16} (hW : ∀ i, has W i = true → has V i = true) (hg : ∀ a b, has W a = true → has W b = true → has (g a) b = true → has (h a) b = true) {a b : Nat} (hR : Rch g W a b) : Rch h V a b := by
  induction hR with
  | refl h => exact .refl _ (hW _ h)
  | step b c hb he hc ih => exact .step _ _ _ ih (hg b c hb.wr hc he) (hW _ hc)
/-- Those that reach one of some. -/
def up (g : Nat → BitVec 16) (W to : BitVec 16) : BitVec 16 := dn (tn g) W to
theorem up_iff {g : Nat → BitVec 16} {W : BitVec 16} (to : BitVec 16) (a : Nat) : has (up g W to) a = true ↔ ∃ q, has to q = true ∧ Rch g W a q := by
  unfold up
  rw [dn_iff]
  exact ⟨fun ⟨q, h1, h2⟩ => ⟨q, h1, Rch.turn.1 h2⟩, fun ⟨q, h1, h2⟩ => ⟨q, h1, Rch.turn.2 h2⟩⟩
/-- The reference's way to go up: one role after the other. -/
theorem up_bit {g : Nat → BitVec 16} {W : BitVec 16} (to : BitVec 16) (a : Nat) (ha : a < 16) : (dn g W (bit a) &&& to == 0#16) = !has (up g W to) a := by
  cases h : has (up g W to) a with
  | true =>
    obtain ⟨q, h1, h2⟩ := (up_iff to a).1 h
    rw [Bool.not_true, beq_eq_false_iff_ne]
    intro e
    have h3 : has (dn g W (bit a) &&& to) q = true := by
      rw [has_and, h1, (dn_iff (bit a) q).2 ⟨a, by rw [has_bit a a ha]; simp, h2⟩]; rfl
    rw [e, has_zero] at h3
    cases h3
  | false =>
    rw [Bool.not_false, beq_iff_eq]
    refine has_ext fun i hi => ?_
    rw [has_zero, has_and]
    cases h1 : has (dn g W (bit a)) i with
    | false => rfl
    | true =>
      cases h2 : has to i with
      | false => rfl
      | true =>
        obtain ⟨q, h3, h4⟩ := (dn_iff (bit a) i).1 h1
        rw [has_bit a q ha] at h3
        obtain rfl : q = a := by simpa using h3
        have := (up_iff to q).2 ⟨i, h2, h4⟩
        rw [h] at this
        cases this
end Go.Proofs.YtdamljjbeaomoaaDoor.Own
