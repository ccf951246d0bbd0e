/- Chapter 30: the reference's Same, on equal rows; move.Told. -/
import Derived.Test.YtohdldlagkmcnaaDoorMvF
import Derived.BigQuiet
namespace Go.Proofs.YtohdldlagkmcnaaDoor.Mv
set_option linter.unusedSimpArgs false
set_option linter.unusedVariables false
open Go.RowKit
open _root_.Go.Proofs.YtohdldlagkmcnaaDoor.Own
open Go.Proofs.YtohdldlagkmcnaaDoor.Pl
attribute [local go_sem] b16_and b16_or b16_andNot
/-- Events that lie in a row. -/
def EvAt (w : World) (g : Nat) (t r : Int) (bS bI : BitVec 16) (ls : List Fl) : Prop := ∀ i (h : i < ls.length), w.cell? ⟨g, i * 10, none⟩ = some (.int .i64 ls[i].k) ∧ w.cell? ⟨g, i * 10 + 1, none⟩ = some (.int .u16 (nH ls[i].a)) ∧ w.cell? ⟨g, i * 10 + 2, none⟩ = some (.int .u16 (nH ls[i].b)) ∧ w.cell? ⟨g, i * 10 + 3, none⟩ = some (.int .u16 (nH ls[i].c)) ∧ w.cell? ⟨g, i * 10 + 4, none⟩ = some (.int .u16 (nH ls[i].d)) ∧
  w.cell? ⟨g, i * 10 + 5, none⟩ = some (.int .i64 t) ∧ w.cell? ⟨g, i * 10 + 6, none⟩ = some (.int .i64 r) ∧ w.cell? ⟨g, i * 10 + 7, none⟩ = some (.int .u16 (nH bS)) ∧ w.cell? ⟨g, i * 10 + 8, none⟩ = some (.int .u16 (nH bI)) ∧ w.cell? ⟨g, i * 10 + 9, none⟩ = some (.int .u16 (nH (uB ls[i].a ls[i].b ls[i].c ls[i].d)))
theorem EvAt.below {w w' : World} {g : Nat} {t r : Int} {bS bI : BitVec 16} {ls : List Fl} (h : EvAt w g t r bS bI ls) (hb : Below w.heap.size w w') : EvAt w' g t r bS bI ls := by
  intro i hi
  obtain ⟨h0, h1, h2, h3, h4, h5, h6, h7, h8, h9⟩ := h i hi
  have f := fun {p : Addr} {v : Value} (hc : w.cell? p = some v) => (hb.cell (World.block_lt_of_cell? w _ hc)).trans hc
  exact ⟨f h0, f h1, f h2, f h3, f h4, f h5, f h6, f h7, f h8, f h9⟩
theorem evs_len (t r : Int) (bS bI : BitVec 16) : ∀ ls : List Fl, (evs t r bS bI ls).length = ls.length * 10
  | [] => rfl
  | f :: ls => by
    have := evs_len t r bS bI ls
    simp only [evs, List.flatMap_cons, List.length_append, List.length_cons] at this ⊢
    rw [this]
    simp [evC]
    omega
theorem evs_get (t r : Int) (bS bI : BitVec 16) : ∀ (ls : List Fl) (i j : Nat) (h : i < ls.length) (hj : j < 10), (evs t r bS bI ls)[i * 10 + j]? = (evC t r bS bI ls[i])[j]?
  | [], i, j, h, hj => absurd h (Nat.not_lt_zero _)
  | f :: ls, 0, j, h, hj => by
    simp only [evs, List.flatMap_cons, List.getElem_cons_zero]
    rw [List.getElem?_append_left (by simp [evC]; omega)]
    simp
  | f :: ls, i + 1, j, h, hj => by
    have := evs_get t r bS bI ls i j (by simpa using h) hj
    simp only [evs, List.flatMap_cons, List.getElem_cons_succ] at this ⊢
    rw [List.getElem?_append_right (by simp [evC]; omega), ← this]
    congr 1
    simp [evC]
    omega
theorem ev_at {base n : Nat} {t r : Int} {bS bI : BitVec 16} {ls : List Fl} {v : Value} {w : World} (hn : n = ls.length) (h : HasN base 50 10 v n (evs t r bS bI ls) w) : ∃ A g c, v = .slice A n c ∧ n ≤ c ∧ (n ≠ 0 → A = some ⟨g, 0, none⟩ ∧ EvAt w g t r bS bI ls) := by
  subst hn
  obtain ⟨h1, ⟨rfl, h2⟩ | ⟨g, cap, cur, rfl, hb, hg, hn, hc, hs, ht⟩⟩ := h
  · exact ⟨none, 0, 0, by rw [h2], by omega, fun q => absurd h2 q⟩
  · refine ⟨_, g, cap, rfl, hn, fun _ => ⟨rfl, ?_⟩⟩
    have cell : ∀ i v, (evs t r bS bI ls)[i]? = some v → w.cell? ⟨g, i, none⟩ = some v := by
      intro i v hv
      rw [cell_of_row w g i cur _ (0, 0) hg, ← Array.getElem?_toList]
      have hi := (List.getElem?_eq_some_iff.1 hv).1
      have h3 : (cur.toList.take (ls.length * 10))[i]? = some v := by rw [ht]; exact hv
      rw [List.getElem?_take, if_pos (by rw [evs_len] at hi; exact hi)] at h3
      exact h3
    intro i hi
    have e := fun j hj => evs_get t r bS bI ls i j hi hj
    exact ⟨cell _ _ (e 0 (by decide)), cell _ _ (e 1 (by decide)), cell _ _ (e 2 (by decide)), cell _ _ (e 3 (by decide)), cell _ _ (e 4 (by decide)), cell _ _ (e 5 (by decide)), cell _ _ (e 6 (by decide)), cell _ _ (e 7 (by decide)), cell _ _ (e 8 (by decide)), cell _ _ (e 9 (by decide))⟩
set_option maxRecDepth 10000 in
set_option maxHeartbeats 8000000 in
theorem Same_calls (t r : Int) (bS bI : BitVec 16) (ls : List Fl) (n c1 c2 g1 g2 : Nat) (A1 A2 : Option Addr) (hn : n = ls.length) (hm : n ≤ 1000) (w : World) (h1 : n ≠ 0 → A1 = some ⟨g1, 0, none⟩ ∧ EvAt w g1 t r bS bI ls) (h2 : n ≠ 0 → A2 = some ⟨g2, 0, none⟩ ∧ EvAt w g2 t r bS bI ls) :
    Calls Tryd.prog 11 #[.slice A1 n c1, .slice A2 n c2] w fun e w' => e = .returned (.bool true) ∧ Below w.heap.size w w' := by
  have H1 := Lib.hid h1
  have H2 := Lib.hid h2
  have HN := Lib.hid hn
  clear h1 h2 hn
  go_enter Tryd.func11, Tryd.ntmps11
  have d0 : ((n : Int) != (n : Int)) = false := by simp
  go_wp2_with fail
  go_loopw [5] (fun i wr => ∃ k : Nat, k ≤ n ∧ i = .int .i64 k ∧ Hid (Below w.heap.size w wr)) (fun i _ => n - (intOf i).toNat)
  case atStart => exact ⟨0, Nat.zero_le _, rfl, Lib.hid (Below.refl _ _)⟩
  case round =>
    obtain ⟨k, hk, rfl, HB⟩ := hrel
    by_cases hlt : k < n
    · have hkl : k < ls.length := by rw [← HN.out]; exact hlt
      obtain ⟨rfl, hE1⟩ := H1.out (by omega)
      obtain ⟨rfl, hE2⟩ := H2.out (by omega)
      have d1 : decide ((k : Int) < (n : Int)) = true := by rw [decide_eq_true_eq]; omega
      have d2 : decide (k < n) = true := decide_eq_true hlt
      have f1 : IntKind.i64.wrap ((k : Int) + 1) = ((k + 1 : Nat) : Int) := by rw [IntKind.wrap_i64]; omega
      obtain ⟨x0, x1, x2, x3, x4, x5, x6, x7, x8, x9⟩ := hE1.below HB.out k hkl
      obtain ⟨y0, y1, y2, y3, y4, y5, y6, y7, y8, y9⟩ := hE2.below HB.out k hkl
      clear hE1 hE2
      generalize ls[k] = f at *
      have HB1 := Lib.hid HB.out.drew
      go_wp2_with fail
      clear H1 H2
      go_region
      go_wp2_with fail
      go_roundw
      case rel => exact ⟨k + 1, hlt, by go_num, HB1⟩
      case measure => simp [intOf]; omega
    · obtain rfl : k = n := by omega
      have d1 : decide ((k : Int) < (k : Int)) = false := by rw [decide_eq_false_iff_not]; omega
      go_wp2_with fail
      go_ret
      exact ⟨rfl, HB.out⟩
set_option maxRecDepth 10000 in
theorem Told_calls (aS aI bS bI : BitVec 16) (w : World) : Calls Tryd.prog 12 #[.agg #[.int .u16 (nH aS), .int .u16 (nH aI)], .agg #[.int .u16 (nH bS), .int .u16 (nH bI)]] w fun e w' => e = .returned (.bool (flowsB bS bI aS aI)) ∧ Below w.heap.size w w' := by
  have hF := LFlows_calls bS bI aS aI
  change ∀ w, Calls _ _ _ _ fun e w' => e = .returned (.bool (flowsB bS bI aS aI)) ∧ _ at hF
  have HF := Lib.hid hF
  clear hF
  have hA := ((At.refl w).alloc [.int .u16 (nH aS), .int .u16 (nH aI)] 24).alloc [.int .u16 (nH bS), .int .u16 (nH bI)] 24
  simp only [World.size_alloc] at hA
  have HA := Lib.hid hA
  clear hA
  go_enter Tryd.func12, Tryd.ntmps12
  go_wp2_with fail
  refine (HF.out _).mono ?_
  rintro e w1 ⟨rfl, hb⟩
  have H1 := Lib.hid (HA.out.call hb)
  clear hb
  go_wp2_with fail
  go_ret
  exact ⟨rfl, H1.out.below⟩
end Go.Proofs.YtohdldlagkmcnaaDoor.Mv
