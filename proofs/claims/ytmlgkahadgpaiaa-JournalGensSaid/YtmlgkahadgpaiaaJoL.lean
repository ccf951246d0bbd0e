/- Chapter 09: the plain law of a run of Adds through a fuse. -/
import Derived.Test.YtmlgkahadgpaiaaJoI
namespace Go.Proofs.Ytmlgkahadgpaiaa.Jo
open Go.RowKit _root_.Go.Proofs.Ytmlgkahadgpaiaa.Own
open Go.Proofs.Ytmlgkahadgpaiaa.Fr
open Go.Proofs.Ytmlgkahadgpaiaa.Dk (D Is D0 torn putRow rowB wst DOk rowB_length)
set_option linter.unusedVariables false
set_option linter.unusedSimpArgs false
theorem add_dead {d : D} (h : d.off = true) (f G N : Nat) (b : List UInt8) : addD d f G N b = (19, d, N) := by
  have e : wst d (f + 2 * N) (blockF 82 G N b) = (19, d) := by unfold Dk.wst; rw [if_pos h]
  unfold addD
  rw [e, if_neg (show ¬ (19 : Int) = 0 by decide)]
/-- The record is cut: the place is none, when its commit was none. -/
theorem add_cut0 {d : D} {n : Nat} (hl : d.all.length = n * 128) (ho : d.off = false) (ha : d.armed = true) (h1 : d.left = 0) (hkp : 0 ≤ d.keep ∧ d.keep ≤ 128) {f G N : Nat} (hf : f + 2 * N + 1 < n) (b : List UInt8) (hG : G ≤ 2147483647) (hN : N ≤ 65535) (hb : b.length ≤ 112) (hg : Gone (rowB d.all (f + 2 * N + 1))) :
    (addD d f G N b).1 = 19 ∧ (addD d f G N b).2.2 = N ∧ (addD d f G N b).2.1.off = true ∧ placeD (addD d f G N b).2.1.all f G N = none := by
  have hc := rec_length 82 G N b hG hN hb
  have e : wst d (f + 2 * N) (blockF 82 G N b) = (19, { d with all := putRow d.all (f + 2 * N) (torn d.keep.toNat (blockF 82 G N b)), off := true, armed := false, writes := d.writes + 1 }) := by
    unfold Dk.wst
    rw [if_neg (by rw [ho]; simp), if_pos ⟨ha, h1⟩]
  unfold addD
  rw [e, if_neg (show ¬ (19 : Int) = 0 by decide)]
  refine ⟨rfl, rfl, rfl, place_com ?_⟩
  show stF 67 (rowB (putRow d.all (f + 2 * N) (torn d.keep.toNat (blockF 82 G N b))) (f + 2 * N + 1)) G N = none
  rw [Va.rowB_put d.all _ n _ _ hl (by omega) hf (Va.torn_len _ _ hc (by omega)), if_neg (by omega)]
  exact hg 67 G N
/-- The commit is cut, but all of it was kept: the place is there. -/
theorem add_whole {d : D} {n : Nat} (hl : d.all.length = n * 128) (ho : d.off = false) (ha : d.armed = true) (h1 : d.left = 1) (hk : d.keep = 128) {f G N : Nat} (hf : f + 2 * N + 1 < n) (b : List UInt8) (hG : G ≤ 2147483647) (hN : N ≤ 65535) (hb : b.length ≤ 112) :
    (addD d f G N b).1 = 19 ∧ (addD d f G N b).2.2 = N ∧ (addD d f G N b).2.1.off = true ∧ placeD (addD d f G N b).2.1.all f G N = some b := by
  have hkp : 0 ≤ d.keep ∧ d.keep ≤ 128 := by omega
  obtain ⟨a1, a2, a3, a4, a5⟩ := wst_live ho (.inr (by omega)) (f + 2 * N) (blockF 82 G N b)
  obtain ⟨r1, r2, r3, -, r5⟩ := Va.wst_row hl hkp (f + 2 * N) (by omega) (blockF 82 G N b) (rec_length 82 G N b hG hN hb)
  have hc := rec_length 67 G N [] hG hN (by simp)
  unfold addD
  rw [if_pos a1]
  have r3 := r3 a1
  generalize (wst d (f + 2 * N) (blockF 82 G N b)).2 = d1 at *
  have e : wst d1 (f + 2 * N + 1) (blockF 67 G N []) = (19, { d1 with all := putRow d1.all (f + 2 * N + 1) (torn d1.keep.toNat (blockF 67 G N [])), off := true, armed := false, writes := d1.writes + 1 }) := by
    unfold Dk.wst
    rw [if_neg (by rw [a2]; simp), if_pos ⟨a3.trans ha, by rw [a4, h1]; rfl⟩]
  rw [e, if_neg (show ¬ (19 : Int) = 0 by decide)]
  have ht : torn d1.keep.toNat (blockF 67 G N []) = blockF 67 G N [] := torn_whole _ hc _ (by rw [r5, hk]; decide)
  refine ⟨rfl, rfl, rfl, place_of ?_ ?_⟩
  · show stF 82 (rowB (putRow d1.all (f + 2 * N + 1) (torn d1.keep.toNat (blockF 67 G N []))) (f + 2 * N)) G N = some b
    rw [ht, Va.rowB_put d1.all _ n _ _ r1 hf (by omega) hc, if_neg (by omega), r3]
    exact st_of 82 G N b hG hN hb
  · show stF 67 (rowB (putRow d1.all (f + 2 * N + 1) (torn d1.keep.toNat (blockF 67 G N []))) (f + 2 * N + 1)) G N = some []
    rw [ht, Va.rowB_put d1.all _ n _ _ r1 hf hf hc, if_pos rfl]
    exact st_of 67 G N [] hG hN (by simp)
/-- Behind i Adds of which 'done' were answered OK, through a fuse of n0 writes that keeps k bytes. -/
structure Run (B : Nat → List UInt8) (n0 k i done : Nat) (d : D) : Prop where
  len : d.all.length = 30 * 128
  kp : d.keep = (k : Int)
  dok : DOk d (2 * i)
  here : ∀ q, q < done → placeD d.all 3 0 q = some (B q)
  more : ∀ q, done < q → q < 12 → Gone (rowB d.all (3 + 2 * q + 1))
  le : done ≤ i
  way : (d.off = false ∧ d.armed = true ∧ d.left = ((n0 - 2 * i : Nat) : Int) ∧ 2 * i ≤ n0 ∧ done = i ∧ Gone (rowB d.all (3 + 2 * i + 1)))
    ∨ (d.off = true ∧ done < i ∧ (n0 = 2 * done ∨ n0 = 2 * done + 1) ∧ (n0 = 2 * done + 1 ∧ k = 128 → placeD d.all 3 0 done = some (B done)) ∧ (¬ (n0 = 2 * done + 1 ∧ k = 128) → placeD d.all 3 0 done = none))
theorem Run.start {d : D} (B : Nat → List UInt8) (n0 k : Nat) (h0 : d.all = (D0 30).all) (h1 : d.off = false) (h2 : d.armed = true) (h3 : d.left = (n0 : Int)) (h4 : d.keep = (k : Int)) (h5 : d.writes = 0) (hn : n0 ≤ 24) (hk : k ≤ 128) : Run B n0 k 0 0 d := by
  have hg : ∀ j, j < 30 → Gone (rowB d.all j) := fun j hj => by rw [h0, Va.rowB_zero 30 j hj]; exact gone_zero
  refine ⟨by rw [h0]; exact List.length_replicate, h4, ⟨by omega, by omega, by omega⟩, fun q h => by omega, fun q h1 h2 => hg _ (by omega), Nat.le_refl _, .inl ⟨h1, h2, h3, Nat.zero_le _, rfl, hg _ (by decide)⟩⟩
theorem Run.add {B : Nat → List UInt8} {n0 k i done : Nat} {d : D} (h : Run B n0 k i done d) (hi : i < 10) (hk : k ≤ 128) (hb : (B i).length ≤ 112) :
    ((addD d 3 0 done (B i)).1 = 0 ∧ (addD d 3 0 done (B i)).2.2 = done + 1 ∧ Run B n0 k (i + 1) (done + 1) (addD d 3 0 done (B i)).2.1)
    ∨ ((addD d 3 0 done (B i)).1 = 19 ∧ (addD d 3 0 done (B i)).2.2 = done ∧ Run B n0 k (i + 1) done (addD d 3 0 done (B i)).2.1) := by
  have hdok := dok_add h.dok 3 0 done (B i)
  have hle := h.le
  rcases h.way with ⟨w1, w2, w3, w4, rfl, w6⟩ | ⟨w1, w2, w3, w4, w5⟩
  · obtain ⟨a1, a2, a3, a4, a5⟩ := add_law (n := 30) h.len h.dok.kp (f := 3) (G := 0) (N := done) (by omega) (B done) (by decide) (by omega) hb
    have oth := fun q G' hq hne => add_other (n := 30) h.len h.dok.kp (f := 3) (G := 0) (N := done) (by omega) (B done) (by decide) (by omega) hb q G' hq hne
    have here' : ∀ q, q < done → placeD (addD d 3 0 done (B done)).2.1.all 3 0 q = some (B q) := fun q hq => (oth q 0 (by omega) (by omega)).trans (h.here q hq)
    have more' : ∀ q, done < q → q < 12 → Gone (rowB (addD d 3 0 done (B done)).2.1.all (3 + 2 * q + 1)) := fun q h1 h2 => by rw [a3 _ (by omega) (by omega) (by omega)]; exact h.more q h1 h2
    by_cases c1 : 2 * done + 2 ≤ n0
    · left
      obtain ⟨b1, b2, b3, b4, b5⟩ := add_live w1 (.inr (by rw [w3]; omega)) 3 0 done (B done)
      refine ⟨b1, b2, a1, a2.trans h.kp, hdok, fun q hq => ?_, fun q h1 h2 => more' q (by omega) h2, Nat.le_refl _, .inl ⟨b3, b4.trans w2, by rw [b5, w3]; omega, by omega, rfl, more' _ (by omega) (by omega)⟩⟩
      by_cases hq' : q = done
      · subst hq'; exact (a4 b1).2
      · exact here' q (by omega)
    · right
      have hn : n0 = 2 * done ∨ n0 = 2 * done + 1 := by omega
      by_cases c2 : n0 = 2 * done
      · obtain ⟨b1, b2, b3, b4⟩ := add_cut0 (n := 30) h.len w1 w2 (by rw [w3]; omega) h.dok.kp (f := 3) (G := 0) (N := done) (by omega) (B done) (by decide) (by omega) hb w6
        exact ⟨b1, b2, a1, a2.trans h.kp, hdok, here', more', by omega, .inr ⟨b3, by omega, hn, fun e => by omega, fun _ => b4⟩⟩
      · by_cases c3 : k = 128
        · obtain ⟨b1, b2, b3, b4⟩ := add_whole (n := 30) h.len w1 w2 (by rw [w3]; omega) (by rw [h.kp, c3]; rfl) (f := 3) (G := 0) (N := done) (by omega) (B done) (by decide) (by omega) hb
          exact ⟨b1, b2, a1, a2.trans h.kp, hdok, here', more', by omega, .inr ⟨b3, by omega, hn, fun _ => b4, fun e => absurd ⟨by omega, c3⟩ e⟩⟩
        · obtain ⟨b1, b2, b3, b4⟩ := add_cut (n := 30) h.len w1 w2 (by rw [w3]; omega) h.dok.kp (by rw [h.kp]; omega) (f := 3) (G := 0) (N := done) (by omega) (B done) (by decide) (by omega) hb
          exact ⟨b1, b2, a1, a2.trans h.kp, hdok, here', more', by omega, .inr ⟨b3, by omega, hn, fun e => absurd e.2 c3, fun _ => b4⟩⟩
  · right
    have hdok := h.dok.mono (k' := 2 * (i + 1)) (by omega)
    rw [add_dead w1]
    exact ⟨rfl, rfl, h.len, h.kp, hdok, h.here, h.more, by omega, .inr ⟨w1, by omega, w3, w4, w5⟩⟩
/-- How many are wanted behind the run. -/
def wants (off : Bool) (n0 k done : Nat) : Nat := if off = true ∧ n0 % 2 = 1 ∧ k = 128 then done + 1 else done
theorem Run.ends {B : Nat → List UInt8} {n0 k i done : Nat} {d : D} (h : Run B n0 k i done d) (hi : i ≤ 10) : wants d.off n0 k done ≤ i ∧ (∀ q, q < wants d.off n0 k done → placeD d.all 3 0 q = some (B q)) ∧ placeD d.all 3 0 (wants d.off n0 k done) = none := by
  have hle := h.le
  unfold wants
  rcases h.way with ⟨w1, w2, w3, w4, rfl, w6⟩ | ⟨w1, w2, w3, w4, w5⟩
  · rw [if_neg (by rw [w1]; simp)]
    exact ⟨Nat.le_refl _, h.here, place_com (w6 67 0 done)⟩
  · by_cases c : n0 = 2 * done + 1 ∧ k = 128
    · rw [if_pos ⟨w1, by omega, c.2⟩]
      refine ⟨by omega, fun q hq => ?_, place_com (h.more (done + 1) (by omega) (by omega) 67 0 _)⟩
      by_cases hq' : q = done
      · subst hq'; exact w4 c
      · exact h.here q (by omega)
    · rw [if_neg (by rintro ⟨-, q1, q2⟩; exact c ⟨by omega, q2⟩)]
      exact ⟨hle, h.here, w5 c⟩
/-- What a row of rows holds up to k. -/
theorem take_getD (ls : List (List UInt8)) (k : Nat) (hk : k ≤ ls.length) : (ls.take k).length = k ∧ ∀ q (hq : q < (ls.take k).length), (ls.take k)[q] = ls.getD q [] := by
  refine ⟨by rw [List.length_take]; omega, fun q hq => ?_⟩
  rw [List.length_take] at hq
  rw [List.getElem_take, List.getD_eq_getElem?_getD, List.getElem?_eq_getElem (by omega)]; rfl
/-- What the disk holds for a generation: just these steps. -/
structure Holds (n f m G : Nat) (ls : List (List UInt8)) (d : D) : Prop where
  len : d.all.length = n * 128
  few : ls.length ≤ m
  each : ∀ q (hq : q < ls.length), placeD d.all f G q = some ls[q]
  none_ : ls.length < m → placeD d.all f G ls.length = none
theorem Holds.same {n f m G : Nat} {ls : List (List UInt8)} {d d' : D} (h : Holds n f m G ls d) (e : d'.all = d.all) : Holds n f m G ls d' := ⟨by rw [e]; exact h.len, h.few, fun q hq => by rw [e]; exact h.each q hq, fun hq => by rw [e]; exact h.none_ hq⟩
theorem Holds.clean {n f m G : Nat} {ls : List (List UInt8)} {d : D} (h : Holds n f m G ls d) (hkp : 0 ≤ d.keep ∧ d.keep ≤ 128) (hf : f + 2 * m ≤ n) (hlt : ls.length < m) : Holds n f m G ls (clN d f ls.length 2).2 := by
  have hc := fun q hq => clean_place h.len hkp (f := f) (N := ls.length) (by omega) G (h.none_ hlt) q hq
  exact ⟨(clean_law h.len hkp (by omega)).1, h.few, fun q hq => by rw [hc q (by omega)]; exact h.each q hq, fun hq => by rw [hc _ (by omega)]; exact h.none_ hq⟩
theorem OpenH_calls {w0 : World} {j g r n f m : Nat} {d : D} {G N : Nat} {w : World} (p : JS w0 j g r n f m d G N w) (ho : d.off = false) (hn : n ≤ 1024) (hf : f + 2 * m ≤ n) (hm : m ≤ 64) (gen : Nat) (hg : gen ≤ 2147483647) {ls : List (List UInt8)} (h : Holds n f m gen ls d) :
    Calls Try.prog 22 #[.pointer (some ⟨j, 0, none⟩), .int .i64 gen] w fun e w' => ∃ A c, e = .returned (.tuple #[.slice A ls.length c, .int .i64 0]) ∧ (∀ w'', Only [g, r, j] w' w'' → Rows w'' A ls) ∧ JS w0 j g r n f m d gen ls.length w' := by
  refine (Open_calls p ho hn hf hm gen hg).mono ?_
  rintro e w' ⟨v, ps, rfl, op, en, js⟩
  have e9 := opened_eq op en ls h.few h.each h.none_
  have n9 : ps.length = ls.length := by have := congrArg List.length e9; simpa using this
  obtain ⟨A, c, ev, st⟩ := opened_stay op
  rw [n9] at js
  rw [e9] at ev st
  subst ev
  refine ⟨A, c, rfl, fun w'' ho' => st [g, r, j] w'' ho' ?_, js⟩
  have h1 := blk_lt p.is.own
  have h2 := blk_lt p.is.row
  have h3 := blk_lt p.jis
  simp; omega
theorem Run.holds {B : Nat → List UInt8} {n0 k i done : Nat} {d : D} (h : Run B n0 k i done d) (hi : i ≤ 10) (ls : List (List UInt8)) (hB : ∀ q, B q = ls.getD q []) (hl : i ≤ ls.length) : wants d.off n0 k done ≤ i ∧ Holds 30 3 12 0 (ls.take (wants d.off n0 k done)) { d with off := false, armed := false } := by
  obtain ⟨h1, h2, h3⟩ := h.ends hi
  obtain ⟨t1, t2⟩ := take_getD ls (wants d.off n0 k done) (by omega)
  exact ⟨h1, h.len, by omega, fun q hq => by rw [t2 q hq, ← hB]; exact h2 q (by omega), fun _ => by rw [t1]; exact h3⟩
theorem rows_take {w : World} {A : Option Addr} {ps : List (Option Addr × Nat × List UInt8)} (hR : Rd w A (sls ps)) (he : ∀ p ∈ ps, (p.1 = none → p.2.1 = 0) ∧ Rd w p.1 (bys p.2.2)) (k : Nat) : Rows w A ((ps.map fun p => p.2.2).take k) := by
  have h := rows_of hR he
  intro i hi
  have hi' : i < (ps.map fun p => p.2.2).length := by rw [List.length_take] at hi; omega
  obtain ⟨a, B, c, h1, h2, h3, h4⟩ := h i hi'
  refine ⟨a, B, c, h1, ?_, h3, ?_⟩
  · rw [List.getElem_take]; exact h2
  · rw [List.getElem_take]; exact h4
theorem kk2 (x : UInt8) (m : Nat) : (nB x).tmod (m : Int) = ((x.toNat % m : Nat) : Int) := by rw [nB_tmod]; unfold nB; simp
theorem kk3 (x : UInt8) : wrap64 (nB x) = nB x := by have := u8_lo x; have := u8_hi x; unfold wrap64; omega
end Go.Proofs.Ytmlgkahadgpaiaa.Jo
