/- The walks of the references of layers 2 and 3. -/
import Derived.Test.YtohdldlagkmcnaaDoorCapsB
namespace Go.Proofs.YtohdldlagkmcnaaDoor
set_option linter.unusedSimpArgs false
set_option linter.unusedVariables false
open Go.RowKit Own
attribute [local go_sem] b16_and b16_or b16_andNot b16_zero
theorem has_used (aS aI bS bI : BitVec 16) (k : Nat) (hk : k < 16) : has ((aS &&& ~~~bS) ||| (bI &&& ~~~aI)) k = (has aS k && !has bS k || has bI k && !has aI k) := by
  unfold has
  rw [BitVec.getLsbD_or, BitVec.getLsbD_and, BitVec.getLsbD_and, BitVec.getLsbD_not, BitVec.getLsbD_not]
  simp [hk]
set_option maxHeartbeats 4000000 in
theorem RUsed_calls (aS aI bS bI : BitVec 16) (w : World) :
    Calls Tryd.prog 27 #[.agg #[.int .u16 (nH aS), .int .u16 (nH aI)], .agg #[.int .u16 (nH bS), .int .u16 (nH bI)]] w fun e w' => e = .returned (.int .u16 (nH ((aS &&& ~~~bS) ||| (bI &&& ~~~aI)))) ∧ Below w.heap.size w w' := by
  have hz : (0 : Int) = nH (upto ((aS &&& ~~~bS) ||| (bI &&& ~~~aI)) 0) := rfl
  have HZ := Lib.hid hz
  clear hz
  go_enter Tryd.func27, Tryd.ntmps27
  go_wp2
  go_loop [5, 6] (fun x i => ∃ k : Nat, k ≤ 16 ∧ x = .int .u16 (nH (upto ((aS &&& ~~~bS) ||| (bI &&& ~~~aI)) k)) ∧ i = .int .i64 k) (fun _ i => 16 - (intOf i).toNat)
  case atStart => exact ⟨0, Nat.zero_le _, by rw [HZ.out], rfl⟩
  case round =>
    obtain ⟨k, hk, rfl, rfl⟩ := hrel
    by_cases hlt : k < 16
    · have hl := Lib.hid (has_used aS aI bS bI k hlt)
      cases h1 : has aS k <;> cases h2 : has bS k <;> cases h3 : has bI k <;> cases h4 : has aI k
      all_goals
        go_wp2_with (first | (go_at_call 19; refine (Has_calls _ _ (by omega) _).mono ?_; rintro e w' ⟨rfl, rfl⟩) | (go_at_call 22; refine (With_calls _ _ (by omega) _).mono ?_; rintro e w' ⟨rfl, rfl⟩))
        go_round
        case rel => exact ⟨k + 1, by omega, by first | rw [upto_no (by rw [hl.out, h1, h2, h3, h4]; rfl)] | rw [upto_yes (by rw [hl.out, h1, h2, h3, h4]; rfl)], by go_num⟩
        case measure => simp [intOf]; omega
    · obtain rfl : k = 16 := by omega
      go_wp2
      go_ret
      exact ⟨by rw [upto_all]; rfl, by repeat (first | exact Below.refl _ _ | refine Below.alloc ?_ (by (try simp only [World.size_alloc]); omega) _)⟩
theorem flows_step {aS aI bS bI : BitVec 16} {k : Nat} (h : ∀ j, j < k → (has aS j && !has bS j || has bI j && !has aI j) = false) (hk : (has aS k && !has bS k || has bI k && !has aI k) = false) : ∀ j, j < k + 1 → (has aS j && !has bS j || has bI j && !has aI j) = false := by
  intro j hj
  by_cases e : j = k
  · subst e; exact hk
  · exact h j (by omega)
theorem flows_none {aS aI bS bI : BitVec 16} (h : ∀ j, j < 16 → (has aS j && !has bS j || has bI j && !has aI j) = false) : flowsB aS aI bS bI = true := by
  unfold flowsB
  rw [less_none aS bS fun j hj => ((Bool.or_eq_false_iff.1 (h j hj)).1), less_none bI aI fun j hj => ((Bool.or_eq_false_iff.1 (h j hj)).2)]
  rfl
theorem flows_some {aS aI bS bI : BitVec 16} (k : Nat) (hk : k < 16) (h : (has aS k && !has bS k || has bI k && !has aI k) = true) : flowsB aS aI bS bI = false := by
  unfold flowsB
  rcases Bool.or_eq_true_iff.1 h with h | h
  · rw [less_some aS bS k hk (Bool.and_eq_true_iff.1 h).1 (by simpa using (Bool.and_eq_true_iff.1 h).2)]; rfl
  · rw [less_some bI aI k hk (Bool.and_eq_true_iff.1 h).1 (by simpa using (Bool.and_eq_true_iff.1 h).2)]; simp
set_option maxHeartbeats 4000000 in
theorem RFlows_calls (aS aI bS bI : BitVec 16) (w : World) :
    Calls Tryd.prog 13 #[.agg #[.int .u16 (nH aS), .int .u16 (nH aI)], .agg #[.int .u16 (nH bS), .int .u16 (nH bI)]] w fun e w' => e = .returned (.bool (flowsB aS aI bS bI)) ∧ Below w.heap.size w w' := by
  go_enter Tryd.func13, Tryd.ntmps13
  go_wp2
  go_loop [5] (fun i => ∃ k : Nat, k ≤ 16 ∧ (∀ j, j < k → (has aS j && !has bS j || has bI j && !has aI j) = false) ∧ i = .int .i64 k) (fun i => 16 - (intOf i).toNat)
  case atStart => exact ⟨0, Nat.zero_le _, fun _ h => absurd h (by omega), rfl⟩
  case round =>
    obtain ⟨k, hk, hno0, rfl⟩ := hrel
    have hno := Lib.hid hno0
    clear hno0
    by_cases hlt : k < 16
    · cases h1 : has aS k <;> cases h2 : has bS k <;> cases h3 : has bI k <;> cases h4 : has aI k
      all_goals
        go_wp2_with (go_at_call 19; refine (Has_calls _ _ (by omega) _).mono ?_; rintro e w' ⟨rfl, rfl⟩)
        first
        | (go_ret; exact ⟨by rw [flows_some k hlt (by rw [h1, h2, h3, h4]; rfl)]; rfl, by repeat (first | exact Below.refl _ _ | refine Below.alloc ?_ (by (try simp only [World.size_alloc]); omega) _)⟩)
        | (go_round; (case rel => exact ⟨k + 1, by omega, flows_step hno.out (by rw [h1, h2, h3, h4]; rfl), by go_num⟩); (case measure => simp [intOf]; omega))
    · obtain rfl : k = 16 := by omega
      go_wp2
      go_ret
      exact ⟨by rw [flows_none hno.out]; rfl, by repeat (first | exact Below.refl _ _ | refine Below.alloc ?_ (by (try simp only [World.size_alloc]); omega) _)⟩
end Go.Proofs.YtohdldlagkmcnaaDoor
